/- A function that defers one call, and a deferred call that recovers. Generic in the program; no condition of its own. -/
import Derived.Test.YtdknmcaemebgfaaGreatDoorMX05
import Derived.Recover
import Derived.Laws.AppendOwn
import Derived.Test.YtdknmcaemebgfaaGreatDoorProg
import Derived.Shelf.RegionOpenPlain
import Derived.Lib.Builder
import Derived.WalkKit
import Derived.Laws.Externs
import Derived.Shelf.Small.Strs
namespace Go.Kx
open Go.RowKit

section
variable {P : Program} {n : Nat} {D : Pin}
theorem opsX_gen {T : Tab} (hT : TabOk P T) {ops : Array Oper} {Q : Exit → Act → World → Prop} {Kp : List PanicEntry → Hp → List SB → Prop} {Kn : Fr → Hp → List SB → Prop} {w0 : World} {M : Nat → Prop} {H0 : Hp} (hgd : Gd w0 M) :
  ∀ (r : List Oper) (i : Nat) (F : Fr) (H : Hp) (G : List SB) (rest : List Oper), (∀ j, (r ++ rest)[j]? = ops[i + j]?) → opsX P T n D.ps ops.toList Kp i r F H G Kn →
  ∀ (ρ : List Value) (a : Act) (w : World), St w0 M H0 ρ H G w → FOk ρ F a.tmps → D.On a → a.tmps.size = n →
   (∀ F' H' G' ρ' a' w', St w0 M H0 ρ' H' G' w' → Pre ρ ρ' → FOk ρ' F' a'.tmps → D.On a' → a'.tmps.size = n → H.Le H' → Kn F' H' G' → wpOps P ops Q ((List.range ops.size).drop (i + r.length)) a' w') →
   (∀ ch ρ' H' G' a' w', St w0 M H0 ρ' H' G' w' → Pre ρ ρ' → D.On a' → H.Le H' → Kp ch H' G' → Q (.panic ch) a' w') →
   wpOps P ops Q ((List.range ops.size).drop i) a w
 | [], i, F, H, G, rest, hr, h, ρ, a, w, hs, hf, hd, hn, hN, hP => by
  have := hN F H G ρ a w hs (.refl _) hf hd hn (.refl _) h
  simpa using this
 | o :: r, i, F, H, G, rest, hr, h, ρ, a, w, hs, hf, hd, hn, hN, hP => by
  have ho : ops[i]? = some o := by have := hr 0; simpa using this.symm
  have hi : i < ops.size := (Array.getElem?_eq_some_iff.1 ho).1
  have hl : (List.range ops.size).drop i = i :: (List.range ops.size).drop (i + 1) := by
   rw [List.drop_eq_getElem_cons (by simpa using hi)]; simp
  have hr' : ∀ j, (r ++ rest)[j]? = ops[i + 1 + j]? := fun j => by have := hr (j + 1); simp at this; rw [this]; congr 1; omega
  have hlen : i + (o :: r).length = i + 1 + r.length := by simp; omega
  rw [hlen] at hN
  rw [opsX_cons] at h
  obtain ⟨b, h, hw⟩ := wantX_ok (ops := ops) h
  rw [hl]
  simp only [wpOps, ho]
  rw [hw ρ a hf]
  cases b with
  | true =>
   simp only [if_true]
   left
   refine upon_of_out (opX_ok hT h w0 M hgd H0 ρ a w hs hf) ?_ ?_
   ·rintro v w' ⟨sv, ρ', H', G', h1, h2, h3, h4, h5⟩
    obtain ⟨sv', h5, h6⟩ := partBool_ok h5
    obtain ⟨F', h5, h8, h7⟩ := putX_ok h5
    have hf' := h7 ρ' a v hn (hf.mono h2) (h6 ρ' v h3)
    exact opsX_gen hT hgd r (i + 1) F' H' G' rest hr' h5 ρ' (a.put o.dst v) w' h1 hf' (hd.put h8 _) (by rw [put_size]; exact hn)
     (fun F2 H2 G2 ρ2 a2 w2 b1 b2 b3 b4 b5 b6 b7 => hN F2 H2 G2 ρ2 a2 w2 b1 (h2.trans b2) b3 b4 b5 (h4.trans b6) b7)
     (fun ch ρ2 H2 G2 a2 w2 b1 b2 b3 b4 b5 => hP ch ρ2 H2 G2 a2 w2 b1 (h2.trans b2) b3 (h4.trans b4) b5)
   ·rintro ch w' ⟨ρ', H', G', h1, h2, h4, h5⟩
    exact hP ch ρ' H' G' a w' h1 h2 hd h4 h5
  | false =>
   simp only [Bool.false_eq_true, if_false]
   obtain ⟨F', h5, h8, h7⟩ := putX_ok h
   have hf' := h7 ρ a undef hn hf rfl
   exact opsX_gen hT hgd r (i + 1) F' H G rest hr' h5 ρ (a.put o.dst undef) w hs hf' (hd.put h8 _) (by rw [put_size]; exact hn) hN hP

def CallDO (P : Program) (f : FuncId) (svs : List SV) (u : FrameMode) (H : Hp) (G : List SB) (K : FrameMode → Hp → List SB → Prop) : Prop :=
 ∀ (w0 : World) (M : Nat → Prop) (_ : Gd w0 M) (H0 : Hp) (ρ : List Value) (w : World) (vs : List Value), St w0 M H0 ρ H G w → All2 (SV.Is ρ) svs vs →
  CallsD P f vs.toArray u w fun e u' w' => match e with
   | .returned _ => ∃ ρ' H' G', St w0 M H0 ρ' H' G' w' ∧ Pre ρ ρ' ∧ H.Le H' ∧ K u' H' G'
   | _ => False
def recX (u : FrameMode) (K : Value → FrameMode → Prop) : Prop :=
 match u with
 | .returning => K .nilIface .returning
 | .panicking [⟨v, false, false⟩] => K v (.panicking [⟨v, true, false⟩])
 | _ => False
theorem recX_ok {u : FrameMode} {K : Value → FrameMode → Prop} (h : recX u K) : ∃ v u', K v u' ∧ ∀ (c : Frame) (cs : List Frame), c.mode = u →
  (recoverD (c :: cs) = some (v, { c with mode := u' } :: cs)) ∨ (recoverD (c :: cs) = none ∧ v = .nilIface ∧ u' = u) := by
 unfold recX at h
 split at h
 ·refine ⟨_, _, h, fun c cs hc => .inr ⟨?_, rfl, rfl⟩⟩
  simp [recoverD, hc]
 ·refine ⟨_, _, h, fun c cs hc => .inl ?_⟩
  simp [recoverD, hc]
 ·exact h.elim
theorem wpOpsS_of {ops : Array Oper} {cs : List Frame} {Q : Exit → Act → List Frame → World → Prop} (hQ : ∀ a w, ¬ Q .outgrown a cs w) :
  ∀ (l : List Nat) (a : Act) (w : World), wpOps P ops (fun e a w => Q e a cs w) l a w → wpOpsS P ops Q l a cs w
 | [], a, w, h => h
 | i :: l, a, w, h => by
  simp only [wpOps] at h
  simp only [wpOpsS]
  cases ho : ops[i]? with
  | none => simp only [ho] at h ⊢; exact wpOpsS_of hQ l a w h
  | some o =>
   simp only [ho] at h ⊢
   by_cases hw : Region.wanted o (yielded ops a.tmps) = true
   ·rw [if_pos hw] at h ⊢
    rcases h with h | ⟨_, a0, w1, h0⟩
    ·unfold Oper.wp at h
     split
     ·rename_i w' hr
      rw [hr] at h
      exact h.elim
     ·exact upon_mono (fun a w => wpOpsS_of hQ l a w) (fun e a w h => h) h
    ·exact (hQ _ _ h0).elim
   ·rw [if_neg hw] at h ⊢
    exact wpOpsS_of hQ l _ w h
def dK (P : Program) (T : Tab) (e : Nat) (rs : List ResultVar) (K : Hp → List SB → Prop) : KT
 | .normal, F, H, G => resX P T rs F H G fun _ => trimX e (.tu []) G fun G' => K H G'
 | .ret, F, H, G => resX P T rs F H G fun _ => trimX e (.tu []) G fun G' => K H G'
 | _, _, _, _ => False
def opsK (A : Fr → Hp → List SB → Prop) : KT
 | .normal, F, H, G => A F H G
 | _, _, _, _ => False
theorem trim_ok {w0 : World} {M : Nat → Prop} {H0 : Hp} {ρ ρ' : List Value} {H' : Hp} {G' : List SB} {w' : World} {e : Nat} {v : SV} {K : List SB → Prop} (hl : ρ.length = e) (h1 : St w0 M H0 ρ' H' G' w') (hp : PreE e ρ ρ') (h : trimX e v G' K) :
  ∃ ρ2 G2, St w0 M H0 ρ2 H' G2 w' ∧ Pre ρ ρ2 ∧ K G2 := by
 unfold trimX at h
 split at h
 ·rename_i hw
  simp only [Bool.and_eq_true] at hw
  obtain ⟨hw1, hw2, hw3⟩ := hw
  refine ⟨ρ'.take e, G'.take e, h1.cut _ hw2, fun k r hk => ?_, h⟩
  have hk' : k < e := by rw [← hl]; exact (List.getElem?_eq_some_iff.1 hk).1
  rw [List.getElem?_take_of_lt hk']
  exact hp k r hk' hk
 ·exact ⟨ρ', G', h1, fun k r hk => hp k r (by rw [← hl]; exact (List.getElem?_eq_some_iff.1 hk).1) hk, h⟩
theorem CallDO.of_body {T : Tab} (hT : TabOk P T) {f : FuncId} {fn : Func} {id : Nat} {ops : Array Oper} {rest : Code} (hf : P.funcs[f]? = some fn) (hb : fn.body = some (.seq (.region id ops false) rest))
  {o0 : Oper} {os : List Oper} (hops : ops.toList = o0 :: os) {ts : Array TypeId} (ho : o0.op = .call ⟨.builtin .recover, #[], ts⟩) (hg : o0.guard = none) {svs : List SV} {nt : Nat} (hn : fn.ntmps = nt) (hl : Nat.ble svs.length nt = true)
  {u : FrameMode} {H : Hp} {G : List SB} {K : FrameMode → Hp → List SB → Prop}
  (h : recX u fun v u' => putX nt [] o0.dst (startF 0 svs) (pv v) fun F' => opsX P T nt [] ops.toList (fun _ _ _ => False) 1 os F' H G fun F2 H2 G2 => codeX P T nt G.length .none rest (dK P T G.length fn.results.toList (K u')) F2 H2 G2) :
  CallDO P f svs u H G K := by
 intro w0 M hgd H0 ρ w vs hs hv
 refine callsD_of_wpS hf hb fun c₀ cs hc₀ => ?_
 obtain ⟨v, u', h, hrec⟩ := recX_ok h
 obtain ⟨F', h, _, hput⟩ := putX_ok h
 have hvl := hv.length
 have hle : svs.length ≤ nt := by simpa using hl
 have hsize : (vs.toArray ++ Array.replicate (fn.ntmps - vs.toArray.size) undef).size = nt := by simp; omega
 generalize hact : (⟨vs.toArray ++ Array.replicate (fn.ntmps - vs.toArray.size) undef, []⟩ : Act) = a0
 have hf0 : FOk ρ (startF 0 svs) a0.tmps := by
  intro i sv hm
  obtain ⟨k, rfl, hk⟩ := startF_mem hm
  obtain ⟨v, h1, h2⟩ := hv.get hk
  refine ⟨v, ?_, h2⟩
  have hkl := (List.getElem?_eq_some_iff.1 h1).1
  rw [← hact, Nat.zero_add, Array.getElem?_append_left (by simpa using hkl)]
  simpa using h1
 have hsz : a0.tmps.size = nt := by rw [← hact]; exact hsize
 have hde : a0.defers = [] := by rw [← hact]
 have ho' : ops[0]? = some o0 := by
  have : ops.toList[0]? = some o0 := by rw [hops]; rfl
  simpa using this
 have hi : 0 < ops.size := (Array.getElem?_eq_some_iff.1 ho').1
 have hlr : List.range ops.size = 0 :: (List.range ops.size).drop 1 := by
  have : (List.range ops.size).drop 0 = 0 :: (List.range ops.size).drop 1 := by
   rw [List.drop_eq_getElem_cons (by simpa using hi)]; simp
  simpa using this
 let Q0 := bodyPostS P fn c₀ cs (fun e u' w' => match e with
   | .returned _ => ∃ ρ' H' G', St w0 M H0 ρ' H' G' w' ∧ Pre ρ ρ' ∧ H.Le H' ∧ K u' H' G'
   | _ => False)
 -- behind 'recover()'
 have next : ∀ w, St w0 M H0 ρ H G w → wpOpsS P ops (Exit.thenS (rest.wpS P Q0) Q0) ((List.range ops.size).drop 1) (a0.put o0.dst v) ({ c₀ with mode := u' } :: cs) w := by
  intro w hs
  have hout : ∀ a w, ¬ (Exit.thenS (rest.wpS P Q0) Q0) .outgrown a ({ c₀ with mode := u' } :: cs) w := by
   rintro a w ⟨_, h⟩; exact h
  refine wpOpsS_of hout _ _ _ ?_
  have hx := opsX_gen (D := .none) (Q := fun e a w => (Exit.thenS (rest.wpS P Q0) Q0) e a ({ c₀ with mode := u' } :: cs) w) (w0 := w0) (M := M) (H0 := H0) hT hgd os 1 F' H G [] (fun j => by
    have : ops.toList[1 + j]? = os[j]? := by rw [hops, show 1 + j = j + 1 by omega]; simp
    simpa using this.symm) h ρ (a0.put o0.dst v) w hs (hput ρ a0 v hsz hf0 rfl) (Pin.on_none.2 (by rw [put_defers]; exact hde)) (by rw [put_size]; exact hsz) ?_ ?_
  ·exact hx
  ·intro F2 H2 G2 ρ2 a2 w2 b1 b2 b3 b4 b5 b6 b7
   have hol : ops.size = 1 + os.length := by have := congrArg List.length hops; simp at this; omega
   rw [List.drop_of_length_le (by simp; omega)]
   show rest.wpS P Q0 a2 ({ c₀ with mode := u' } :: cs) w2
   refine wpS_of_wp (wp_mono (codeX_ok hT _ b7 w0 M hgd H0 ρ2 a2 w2 b1 b3 b4 b5) fun e a w' he => ?_)
   have fin : (Pin.none.On a ∧ a.tmps.size = nt ∧ ∃ F' ρ' H' G', St w0 M H0 ρ' H' G' w' ∧ PreE G.length ρ2 ρ' ∧ FOk ρ' F' a.tmps ∧ H2.Le H' ∧ resX P T fn.results.toList F' H' G' fun _ => trimX G.length (.tu []) G' fun G3 => K u' H' G3) →
     a.defers = [] ∧ ∃ u2, ({ c₀ with mode := u' } :: cs : List Frame) = { c₀ with mode := u2 } :: cs ∧ ∃ v, (results fn a.tmps).run P w' = .ok v w' ∧ ∃ ρ' H' G', St w0 M H0 ρ' H' G' w' ∧ Pre ρ ρ' ∧ H.Le H' ∧ K u2 H' G' := by
    rintro ⟨hd, _, F3, ρ', H', G', h1, hq, h2, h3, h4⟩
    obtain ⟨l, h4, hl⟩ := resX_ok hT h4
    obtain ⟨ys, h5, h6⟩ := hl ρ' a w' h1.sw h2
    obtain ⟨ρ3, G3, c1, c2, c3⟩ := trim_ok hs.len h1 (b2.toE.trans hq) h4
    exact ⟨Pin.on_none.1 hd, u', rfl, _, run_results h5, ρ3, H', G3, c1, c2, b6.trans h3, c3⟩
   cases e with
   | normal => exact fin he
   | ret => exact fin he
   | panic ch => obtain ⟨_, _, _, _, _, _, _, h5⟩ := he; exact h5.elim
   | outgrown => exact he.elim
   | exit id => obtain ⟨_, _, _, _, _, _, _, _, _, _, h5⟩ := he; exact h5.elim
   | goto l => obtain ⟨_, _, _, _, _, _, _, _, _, _, h5⟩ := he; exact h5.elim
  ·intro ch ρ' H' G' a' w' _ _ _ _ hk
   exact hk.elim
 refine wpS_seq (wpS_region ?_)
 rw [hlr]
 have hwant : Region.wanted o0 (yielded ops a0.tmps) = true := by unfold Region.wanted; rw [hg]
 have hrun : (execOp a0.eval o0).run P w = .ok .recover w := by
  simp [execOp, ho, resolve, invoke, builtin]
 simp only [wpOpsS, ho', hwant, if_true, hrun]
 rcases hrec c₀ cs hc₀ with e1 | ⟨e1, rfl, rfl⟩
 ·rw [e1]; exact next w hs
 ·rw [e1]
  have : ({ c₀ with mode := u' } : Frame) = c₀ := by rw [← hc₀]
  rw [← this]; exact next w hs

def pinF : List Nat → Fr → (Fr → Prop) → Prop
 | [], _, K => K []
 | i :: r, F, K => getX F i fun sv => pinF r F fun F' => K ((i, sv) :: F')
theorem pinF_ok {F : Fr} : ∀ {ps : List Nat} {K : Fr → Prop}, pinF ps F K → ∃ F', K F' ∧ ∀ i sv, (i, sv) ∈ F' → i ∈ ps ∧ (i, sv) ∈ F
 | [], K, h => ⟨[], h, fun i sv hm => by simp at hm⟩
 | i :: r, K, h => by
  obtain ⟨sv, h1, h⟩ := getX_ok h
  obtain ⟨F', h, h2⟩ := pinF_ok h
  refine ⟨_, h, fun j sv' hm => ?_⟩
  rcases List.mem_cons.1 hm with hm | hm
  ·injection hm with e1 e2; subst e1 e2; exact ⟨List.mem_cons_self, h1⟩
  ·exact ⟨List.mem_cons_of_mem _ (h2 j sv' hm).1, (h2 j sv' hm).2⟩
def backX (u : FrameMode) (K : Prop) : Prop :=
 match settle u with
 | .returning => K
 | _ => False
theorem backX_ok {u : FrameMode} {K : Prop} (h : backX u K) : settle u = .returning ∧ K := by
 unfold backX at h
 split at h
 ·exact ⟨by assumption, h⟩
 ·exact h.elim
structure CallDS (P : Program) (f : FuncId) (svs : List SV) (u : FrameMode) (H : Hp) (G : List SB) (K : FrameMode → Hp → List SB → Prop) : Prop where of ::
 to : CallDO P f svs u H G K
def defK (P : Program) (T : Tab) (e : Nat) (rs : List ResultVar) (g : FuncId) (svs : List SV) (Fp : Fr) (K : SE → Hp → List SB → Prop) : KT
 | .normal, F, H, G => CallDS P g svs .returning H G fun u' H' G' => backX u' (resX P T rs F H' G' fun l => endK.one l (fun v => trimX e v G' fun G2 => K (.ret v) H' G2))
 | .ret, F, H, G => CallDS P g svs .returning H G fun u' H' G' => backX u' (resX P T rs F H' G' fun l => endK.one l (fun v => trimX e v G' fun G2 => K (.ret v) H' G2))
 | .panic ch, _, H, G => CallDS P g svs (.panicking ch) H G fun u' H' G' => backX u' (resX P T rs Fp H' G' fun l => endK.one l (fun v => trimX e v G' fun G2 => K (.ret v) H' G2))
 | _, _, _, _ => False


theorem Pre.of_E {e : Nat} {ρ ρ' : List Value} (hl : ρ.length = e) (h : PreE e ρ ρ') : Pre ρ ρ' := fun k r hk => h k r (by rw [← hl]; exact (List.getElem?_eq_some_iff.1 hk).1) hk
theorem all2_mono {ρ ρ' : List Value} (h : Pre ρ ρ') {svs : List SV} {vs : List Value} (ha : All2 (SV.Is ρ) svs vs) : All2 (SV.Is ρ') svs vs := ha.mono fun _ _ => SV.Is.mono h
def glen (G : List SB) (K : Nat → Prop) : Prop := appG G .dead fun _ n => K n
theorem CallO.of_bodyD {T : Tab} (hT : TabOk P T) {f : FuncId} {fn : Func} {A rest : Code} {id : Nat} {ops : Array Oper} (hf : P.funcs[f]? = some fn) (hb : fn.body = some (.seq A (.seq (.region id ops false) rest)))
  {pre : List Oper} {od : Oper} (hops : ops.toList = pre ++ [od]) {fx : Operand} {ts : Array TypeId} (hod : od.op = .defer ⟨.value fx, #[], ts⟩) (hg : od.guard = none) {svs : List SV} {nt : Nat} (hn : fn.ntmps = nt) (hl : Nat.ble svs.length nt = true)
  {H : Hp} {G : List SB} {K : SE → Hp → List SB → Prop} (ps : List Nat)
  (h : codeX P T nt G.length .none A (opsK fun F H1 G1 => opsX P T nt [] ops.toList (fun _ _ _ => False) 0 pre F H1 G1 fun F1 H2 G2 => evX fx F1 fun sv => calleeX sv fun g s1 s2 => Bodied P g ∧
   putX nt [] od.dst F1 (pv undef) fun F2 => pinF ps F2 fun Fp => glen G2 fun e' => ∀ ds vs, codeX P T nt e' ⟨ds, ps, vs⟩ rest (defK P T G.length fn.results.toList g (s1 ++ s2) Fp K) F2 H2 G2) (startF 0 svs) H G) : CallO P f svs H G K := by
 intro w0 M hgd H0 ρ w vs hs hv
 refine (calls_of_wp_defers (R := fun e w' => match e with
   | .returned v => ∃ sv ρ' H' G', St w0 M H0 ρ' H' G' w' ∧ Pre ρ ρ' ∧ sv.Is ρ' v ∧ H.Le H' ∧ K (.ret sv) H' G'
   | .panicked ch => ∃ ρ' H' G', St w0 M H0 ρ' H' G' w' ∧ Pre ρ ρ' ∧ H.Le H' ∧ K (.pan ch) H' G'
   | .outgrown => False) hf hb ?_)
 have hvl := hv.length
 have hle : svs.length ≤ nt := by simpa using hl
 have hsize : (vs.toArray ++ Array.replicate (fn.ntmps - vs.toArray.size) undef).size = nt := by simp; omega
 generalize hact : (⟨vs.toArray ++ Array.replicate (fn.ntmps - vs.toArray.size) undef, []⟩ : Act) = a0
 have hf0 : FOk ρ (startF 0 svs) a0.tmps := by
  intro i sv hm
  obtain ⟨k, rfl, hk⟩ := startF_mem hm
  obtain ⟨v, h1, h2⟩ := hv.get hk
  refine ⟨v, ?_, h2⟩
  have hkl := (List.getElem?_eq_some_iff.1 h1).1
  rw [← hact, Nat.zero_add, Array.getElem?_append_left (by simpa using hkl)]
  simpa using h1
 have hsz : a0.tmps.size = nt := by rw [← hact]; exact hsize
 have hde : a0.defers = [] := by rw [← hact]
 refine wp_seq (wp_mono (codeX_ok hT _ h w0 M hgd H0 ρ a0 w hs hf0 (Pin.on_none.2 hde) hsz) fun e a1 w1 he => ?_)
 cases e with
 | panic ch => obtain ⟨_, _, _, _, _, _, _, h5⟩ := he; exact h5.elim
 | outgrown => exact he.elim
 | exit id => obtain ⟨_, _, _, _, _, _, _, _, _, _, h5⟩ := he; exact h5.elim
 | goto l => obtain ⟨_, _, _, _, _, _, _, _, _, _, h5⟩ := he; exact h5.elim
 | ret => obtain ⟨_, _, _, _, _, _, _, _, _, _, h5⟩ := he; exact h5.elim
 | normal =>
  obtain ⟨hd1, hn1, F1, ρ1, H1, G1, hs1, hp1, hf1, hle1, h⟩ := he
  have hp1 := Pre.of_E hs.len hp1
  refine wp_seq (wp_region ?_)
  have hx := opsX_gen (D := .none) (n := nt) (ops := ops) (Kp := fun _ _ _ => False) (Q := Exit.then (rest.wp P (bodyPostD P fn (fun e w' => match e with
   | .returned v => ∃ sv ρ' H' G', St w0 M H0 ρ' H' G' w' ∧ Pre ρ ρ' ∧ sv.Is ρ' v ∧ H.Le H' ∧ K (.ret sv) H' G'
   | .panicked ch => ∃ ρ' H' G', St w0 M H0 ρ' H' G' w' ∧ Pre ρ ρ' ∧ H.Le H' ∧ K (.pan ch) H' G'
   | .outgrown => False))) (bodyPostD P fn (fun e w' => match e with
   | .returned v => ∃ sv ρ' H' G', St w0 M H0 ρ' H' G' w' ∧ Pre ρ ρ' ∧ sv.Is ρ' v ∧ H.Le H' ∧ K (.ret sv) H' G'
   | .panicked ch => ∃ ρ' H' G', St w0 M H0 ρ' H' G' w' ∧ Pre ρ ρ' ∧ H.Le H' ∧ K (.pan ch) H' G'
   | .outgrown => False))) (w0 := w0) (M := M) (H0 := H0) hT hgd pre 0 F1 H1 G1 [od] (fun j => by
    have : ops.toList[j]? = (pre ++ [od])[j]? := by rw [hops]
    simpa using this.symm) h ρ1 a1 w1 hs1 hf1 hd1 hn1 ?_ (fun ch ρ' H' G' a' w' _ _ _ _ hk => hk.elim)
  ·simpa using hx
  ·intro F2 H2 G2 ρ2 a2 w2 hs2 hp2 hf2 hd2 hn2 hle2 h
   obtain ⟨sv, h, hsv⟩ := evX_ok h
   obtain ⟨g, s1, s2, ⟨hbod, h⟩, hc⟩ := calleeX_ok h
   obtain ⟨F3, h, _, hput⟩ := putX_ok h
   obtain ⟨Fp, h, hpin⟩ := pinF_ok h
   have h := appG_ok h
   obtain ⟨x, y, e1, hx, hy⟩ := hc ρ2 _ (hsv ρ2 a2 hf2)
   have hl1 : ops.size = pre.length + 1 := by have := congrArg List.length hops; simpa using this
   have hlr : (List.range ops.size).drop (0 + pre.length) = [pre.length] := by
    rw [Nat.zero_add, hl1, List.range_succ, List.drop_append_of_le_length (by simp), List.drop_of_length_le (by simp)]; rfl
   have ho' : ops[pre.length]? = some od := by
    have : ops.toList[pre.length]? = some od := by rw [hops]; simp
    simpa using this
   have hwant : Region.wanted od (yielded ops a2.tmps) = true := by unfold Region.wanted; rw [hg]
   have hrun : (execOp a2.eval od).run P w2 = .ok (.defer { target := .fn (.func g) y.toArray, args := x.toArray }) w2 := by
    simp only [execOp, hod, resolve, e1, Deferred.ofValue]
    simp
   rw [hlr]
   simp only [wpOps, ho', hwant, if_true, Oper.wp, hrun, Oper.upon_defer]
   left
   generalize hds : ({ target := .fn (.func g) y.toArray, args := x.toArray } : Deferred) = d0
   have hf3 : FOk ρ2 F3 (({ a2 with defers := d0 :: a2.defers } : Act).put od.dst undef).tmps := hput ρ2 { a2 with defers := d0 :: a2.defers } undef hn2 hf2 rfl
   generalize ha3 : (({ a2 with defers := d0 :: a2.defers } : Act).put od.dst undef) = a3 at hf3
   have hn3 : a3.tmps.size = nt := by rw [← ha3, put_size]; exact hn2
   have hd3 : a3.defers = [d0] := by rw [← ha3, put_defers]; show d0 :: a2.defers = _; rw [Pin.on_none.1 hd2]
   show rest.wp P _ a3 w2
   have hpre := hp1.trans hp2
   refine wp_mono (codeX_ok hT _ (h [d0] (fun i => a3.tmps[i]?)) w0 M hgd H0 ρ2 a3 w2 hs2 hf3 ⟨hd3, fun i _ => rfl⟩ hn3) fun e a4 w4 he => ?_
   have fin : ∀ (u : FrameMode) (F4 : Fr) (ρ4 : List Value) (H4 : Hp) (G4 : List SB), u ≠ .run → a4.defers = [d0] → St w0 M H0 ρ4 H4 G4 w4 → Pre ρ2 ρ4 → FOk ρ4 F4 a4.tmps → H2.Le H4 →
     CallDS P g (s1 ++ s2) u H4 G4 (fun u' H' G' => backX u' (resX P T fn.results.toList F4 H' G' fun l => endK.one l (fun v => trimX G.length v G' fun G2 => K (.ret v) H' G2))) →
     Leaves P fn a4.tmps (fun e w' => match e with
      | .returned v => ∃ sv ρ' H' G', St w0 M H0 ρ' H' G' w' ∧ Pre ρ ρ' ∧ sv.Is ρ' v ∧ H.Le H' ∧ K (.ret sv) H' G'
      | .panicked ch => ∃ ρ' H' G', St w0 M H0 ρ' H' G' w' ∧ Pre ρ ρ' ∧ H.Le H' ∧ K (.pan ch) H' G'
      | .outgrown => False) a4.defers u w4 := by
    intro u F4 ρ4 H4 G4 hu hd4 hs4 hp4 hf4 hle4 hc
    rw [hd4, ← hds]
    have hinv : (invoke (.fn (.func g) y.toArray) x.toArray).run P w4 = .ok (.enter g (x ++ y).toArray) w4 := by
     simp only [invoke, run_callFunc hbod]; simp
    refine leaves_cons hu hinv (CallsD.mono (hc.to w0 M hgd H0 ρ4 w4 (x ++ y) hs4 (all2_mono hp4 (hx.append hy))) fun e u' w' he => ?_)
    cases e with
    | returned v =>
     obtain ⟨ρ5, H5, G5, hs5, hp5, hle5, h⟩ := he
     obtain ⟨hset, h⟩ := backX_ok h
     obtain ⟨l, h, hl⟩ := resX_ok hT h
     obtain ⟨sv, h, hsv⟩ := one_ok h
     obtain ⟨ys, h5, h6⟩ := hl ρ5 a4 w' hs5.sw (hf4.mono hp5)
     show Leaves P fn a4.tmps _ [] (settle u') w'
     rw [hset]
     refine ⟨_, run_results h5, ?_⟩
     have hpp : Pre ρ ρ5 := (hpre.trans hp4).trans hp5
     have hhh : H.Le H5 := ((hle1.trans hle2).trans hle4).trans hle5
     unfold trimX at h
     split at h
     ·rename_i hw
      simp only [Bool.and_eq_true] at hw
      obtain ⟨hw1, hw2, hw3⟩ := hw
      refine ⟨sv, ρ5.take G.length, H5, G5.take G.length, hs5.cut _ hw2, fun k r hk => ?_, (hsv ρ5 ys h6).cut hw1, hhh, h⟩
      rw [List.getElem?_take_of_lt (by rw [← hs.len]; exact (List.getElem?_eq_some_iff.1 hk).1)]
      exact hpp k r hk
     ·exact ⟨sv, ρ5, H5, G5, hs5, hpp, hsv ρ5 ys h6, hhh, h⟩
    | panicked ch => exact he.elim
    | outgrown => exact he.elim
   cases e with
   | normal => obtain ⟨b1, b2, F4, ρ4, H4, G4, b3, b4, b5, b6, b7⟩ := he; exact fin .returning F4 ρ4 H4 G4 (by simp) b1.1 b3 (Pre.of_E hs2.len b4) b5 b6 b7
   | ret => obtain ⟨b1, b2, F4, ρ4, H4, G4, b3, b4, b5, b6, b7⟩ := he; exact fin .returning F4 ρ4 H4 G4 (by simp) b1.1 b3 (Pre.of_E hs2.len b4) b5 b6 b7
   | panic ch =>
    obtain ⟨b1, ρ4, H4, G4, b3, b4, b6, b7⟩ := he
    refine fin (.panicking ch) Fp ρ4 H4 G4 (by simp) b1.1 b3 (Pre.of_E hs2.len b4) (fun i sv hi => ?_) b6 b7
    obtain ⟨q1, q2⟩ := hpin i sv hi
    obtain ⟨v, q3, q4⟩ := hf3 i sv q2
    refine ⟨v, ?_, q4.mono (Pre.of_E hs2.len b4)⟩
    rw [b1.2 i q1]; exact q3
   | outgrown => exact he.elim
   | exit id => obtain ⟨_, _, _, _, _, _, _, _, _, _, h5⟩ := he; exact h5.elim
   | goto l => obtain ⟨_, _, _, _, _, _, _, _, _, _, h5⟩ := he; exact h5.elim
end
end Go.Kx
namespace Go.Kx
open Go.RowKit
section
variable {P : Program} {n e : Nat} {D : Pin}
def Meets (e : Nat) (I : Fr → Hp → List SB → Prop) (F : Fr) (H : Hp) (G : List SB) : Prop :=
 ∃ F' G' σ, I F' H G' ∧ subOk e σ F' G' = true ∧ subG σ G σ G' ∧ subF σ F F'
theorem W.seqTo {x y : Code} {K : KT} {F : Fr} {H : Hp} {G : List SB} (I : Fr → Hp → List SB → Prop) (h : W P n e D x (thenK (Meets e I) K) F H G)
  (h2 : ∀ F' H' G', H.Le H' → I F' H' G' → codeL P n e D y K F' H' G') : W P n e D (.seq x y) K F H G :=
 W.seq (W.mono h fun xx F' H' G' hle he => by
  cases xx with
  | normal =>
   obtain ⟨F2, G2, σ, h1, h3, h4, h5⟩ := he
   exact W.sub σ (h2 F2 H' G2 hle h1).to h3 h4 h5
  | _ => exact he)
theorem codeL.seqTo {T : Tab} (hT : TabOk P T) {x y : Code} {K : KT} {F : Fr} {H : Hp} {G : List SB} (I : Fr → Hp → List SB → Prop) (h : codeX P T n e D x (thenK (Meets e I) K) F H G)
  (h2 : ∀ F' H' G', H.Le H' → I F' H' G' → codeL P n e D y K F' H' G') : codeL P n e D (.seq x y) K F H G := ⟨W.seqTo I (codeX_ok hT _ h) h2⟩
theorem WS.seqTo {T : Tab} (hT : TabOk P T) {x y : Code} {K : KT} {F : Fr} {H : Hp} {G : List SB} (I : Fr → Hp → List SB → Prop) (h : codeX P T n e D x (thenK (Meets e I) K) F H G)
  (h2 : ∀ F' H' G', H.Le H' → I F' H' G' → codeL P n e D y K F' H' G') : WS P n e D (.seq x y) K F H G := ⟨W.seqTo I (codeX_ok hT _ h) h2⟩
theorem codeL.ofS {c : Code} {K : KT} {F : Fr} {H : Hp} {G : List SB} (h : WS P n e D c K F H G) : codeL P n e D c K F H G := ⟨h.to⟩
theorem WS.scopeR {c y : Code} {l : Nat} (hf : findLabel c l = some (.seq .skip y)) {K : KT} {F : Fr} {H : Hp} {G : List SB} (I : Nat → Fr → Hp → List SB → Prop) (m : Nat)
  (hr : ∀ m F' H' G', H.Le H' → I m F' H' G' → codeL P n e D y (scopeK e l I m K) F' H' G')
  (h0 : (∀ F' H' G', H.Le H' → I m F' H' G' → codeL P n e D y (scopeK e l I m K) F' H' G') → codeL P n e D c (scopeK e l I m K) F H G) : WS P n e D (.scope c) K F H G :=
 WS.scope hf I m (h0 (hr m)) fun m F' H' G' hle hI => ⟨W.seq (W.skip (hr m F' H' G' hle hI).to)⟩
theorem codeL.label {l : Nat} {y : Code} {K : KT} {F : Fr} {H : Hp} {G : List SB} (h : codeL P n e D y K F H G) : codeL P n e D (.seq (.label l) y) K F H G := ⟨W.seq (W.label h.to)⟩

theorem RdN.mono {H H' : Hp} (h : H.Le H') {A : Option Addr} {off : Nat} {xs : List Value} (hr : RdN H A off xs) : RdN H' A off xs :=
 let ⟨b, o, h1, h2⟩ := hr; ⟨b, o, h1, fun j x hx => h _ _ _ (h2 j x hx)⟩
theorem RdC.mono {H H' : Hp} (h : H.Le H') {A : Option Addr} {off : Nat} {x : Value} (hr : RdC H A off x) : RdC H' A off x :=
 let ⟨b, o, h1, h2⟩ := hr; ⟨b, o, h1, h _ _ _ h2⟩

theorem St.retell {w0 : World} {M : Nat → Prop} {H0 : Hp} {ρ : List Value} {H : Hp} {G : List SB} {w : World} (h : St w0 M H0 ρ H G w) {k : Nat} {t : TypeId} {cs cs' : List SC} (hk : G[k]? = some (.box t cs)) (hc : ∀ ys, All2 (SC.Is ρ) cs ys → All2 (SC.Is ρ) cs' ys) :
  St w0 M H0 ρ H (G.set k (.box t cs')) w := by
 have hkl := (List.getElem?_eq_some_iff.1 hk).1
 have hb : ∀ j, blkAt ρ (G.set k (.box t cs')) j = blkAt ρ G j := fun j => by
  by_cases hjk : k = j
  ·subst hjk
   unfold blkAt
   rw [List.getElem?_set_self hkl, hk]
   cases ρ[k]? <;> rfl
  ·unfold blkAt
   rw [List.getElem?_set_ne hjk]
 refine ⟨h.os, h.tape, h.output, h.size, h.old, h.hle, h.hin, h.hnew, by simp [h.len], ?_, fun j x hx => h.own j x (by rw [← hb]; exact hx), fun i j x hi hj => h.inj i j x (by rw [← hb]; exact hi) (by rw [← hb]; exact hj)⟩
 intro j s1 r1 h1 h2
 by_cases hjk : k = j
 ·subst hjk
  rw [List.getElem?_set_self hkl] at h1
  injection h1 with h1; subst h1
  obtain ⟨g, ys, e1, e2, e3⟩ := h.ok k _ r1 hk h2
  exact ⟨g, ys, e1, e2, hc ys e3⟩
 ·rw [List.getElem?_set_ne hjk] at h1
  exact h.ok j s1 r1 h1 h2
theorem all2_set_left {ρ : List Value} {c c' : SC} : ∀ {cs : List SC} {ys : List Value} {i : Nat}, cs[i]? = some c → (∀ y, c.Is ρ y → c'.Is ρ y) → All2 (SC.Is ρ) cs ys → All2 (SC.Is ρ) (cs.set i c') ys
 | [], _, i, h, _, _ => by simp at h
 | a :: l, _, 0, h, hc, .cons h1 h2 => by simp at h; subst h; exact .cons (hc _ h1) h2
 | a :: l, _, i + 1, h, hc, .cons h1 h2 => .cons h1 (all2_set_left (i := i) (by simpa using h) hc h2)
theorem St.nilCell {w0 : World} {M : Nat → Prop} {H0 : Hp} {ρ : List Value} {H : Hp} {G : List SB} {w : World} (h : St w0 M H0 ρ H G w) {k i : Nat} {t : TypeId} {cs : List SC} (et sz : Nat) (hk : G[k]? = some (.box t cs)) (hi : cs[i]? = some (.val (.slice none 0 0))) :
  St w0 M H0 (ρ ++ [.slice none 0 0]) H (G.set k (.box t (cs.set i (.self G.length))) ++ [.row et sz 0 []]) w := by
 have h1 := h.adopt (s := .row et sz 0 []) (r := .slice none 0 0) (OwnRow.nil w et sz) (fun g hg => by cases hg)
 have hkl := (List.getElem?_eq_some_iff.1 hk).1
 have h2 := h1.retell (k := k) (t := t) (cs := cs) (cs' := cs.set i (.self G.length)) (by rw [List.getElem?_append_left hkl]; exact hk) (fun ys hy => all2_set_left (i := i) hi (fun y hy => by
  obtain rfl : y = _ := hy
  show (ρ ++ [Value.slice none 0 0])[G.length]? = _
  rw [← h.len]; simp) hy)
 rw [List.set_append_left k _ hkl] at h2
 exact h2
theorem CallO.nilCell {f : FuncId} {svs : List SV} {H : Hp} {G : List SB} {K0 K : SE → Hp → List SB → Prop} (h : CallO P f svs H G K0)
  (hK : ∀ e H' G', H.Le H' → K0 e H' G' → K e H' G' ∨ ∃ k i t cs et sz, G'[k]? = some (.box t cs) ∧ cs[i]? = some (.val (.slice none 0 0)) ∧ K e H' (G'.set k (.box t (cs.set i (.self G'.length))) ++ [.row et sz 0 []])) : CallO P f svs H G K := by
 intro w0 M hgd H0 ρ w vs hs hv
 refine (h w0 M hgd H0 ρ w vs hs hv).mono fun e w' he => ?_
 cases e with
 | returned v =>
  obtain ⟨sv, ρ', H', G', h1, h2, h3, h4, h5⟩ := he
  rcases hK _ _ _ h4 h5 with h6 | ⟨k, i, t, cs, et, sz, h6, h7, h8⟩
  ·exact ⟨sv, ρ', H', G', h1, h2, h3, h4, h6⟩
  ·exact ⟨sv, _, H', _, h1.nilCell et sz h6 h7, h2.trans (Pre.append _ _), h3.mono (Pre.append _ _), h4, h8⟩
 | panicked ch =>
  obtain ⟨ρ', H', G', h1, h2, h4, h5⟩ := he
  rcases hK _ _ _ h4 h5 with h6 | ⟨k, i, t, cs, et, sz, h6, h7, h8⟩
  ·exact ⟨ρ', H', G', h1, h2, h4, h6⟩
  ·exact ⟨_, H', _, h1.nilCell et sz h6 h7, h2.trans (Pre.append _ _), h4, h8⟩
 | outgrown => exact he
end
end Go.Kx
namespace Go.Kx
open Go.RowKit
section
variable {P : Program}
def GlW (w : World) : Prop := ∀ g cs, Gl g = some cs → ∃ t z, w.heap[g]? = some (.cells cs t z)
def svOf : Value → SV
 | .tuple vs => .tu (vs.toList.map fun v => .ce (.val v))
 | v => pv v
theorem svOf_is (ρ : List Value) (v : Value) : (svOf v).Is ρ v := by
 unfold svOf
 split
 ·rename_i vs
  refine ⟨vs.toList, by simp, ?_⟩
  generalize vs.toList = l
  induction l with
  | nil => exact .nil
  | cons a l ih => exact .cons rfl ih
 ·rfl
theorem pv_all (ρ : List Value) : ∀ {args vs : List Value}, All2 (SV.Is ρ) (args.map pv) vs → vs = args
 | [], _, h => by cases h; rfl
 | a :: l, _, h => by
  cases h with | cons h1 h2 =>
   have h1 : _ = a := h1
   rw [h1, pv_all ρ h2]
theorem grown_of_below {w w' : World} (h : Below w.heap.size w w') : w.grownBy w' none := ⟨h.os, h.tape, h.output, h.size, fun k hk _ => h.block k hk⟩
theorem grown_refl (w : World) : w.grownBy w none := grown_of_below (Below.refl _ _)
theorem CallO.of_calls {f : FuncId} {args : List Value} {H : Hp} {G : List SB} {R : Value → Prop} (h : ∀ w : World, GlW w → H.In w → Calls P f args.toArray w fun e w' => ∃ v, e = .returned v ∧ R v ∧ w.grownBy w' none) :
  CallO P f (args.map pv) H G fun e H' G' => ∃ v, R v ∧ e = .ret (svOf v) ∧ H' = H ∧ G' = G := by
 intro w0 M hgd H0 ρ w vs hs hv
 obtain rfl := pv_all ρ hv
 refine (h w (fun g cs hc => hs.gl hgd hc) hs.hin).mono fun e w' he => ?_
 obtain ⟨v, rfl, hR, hg⟩ := he
 exact ⟨svOf v, ρ, H, G, hs.grew hg (fun g e => by cases e), .refl _, svOf_is ρ v, .refl _, v, hR, rfl, rfl, rfl⟩
end
end Go.Kx
namespace Go.Kx
open Go.RowKit

section
variable {P : Program}
theorem all2_at {ρ : List Value} {k : Nat} {x : Value} (hk : ρ[k]? = some x) : ∀ {svs : List SV} {vs : List Value}, All2 (SV.Is ρ) svs vs → All2 (SV.Is ρ) (svs.map (SV.at k x)) vs
 | _, _, .nil => .nil
 | _, _, .cons h t => .cons (h.at hk) (all2_at hk t)
theorem CallO.eat {f : FuncId} {svs : List SV} {H : Hp} {G : List SB} {K : SE → Hp → List SB → Prop} (k : Nat) {t : TypeId} {sz n : Nat} {xs : List Value} (hk : G[k]? = some (.row t sz n xs)) (hz : n = 0 → xs = [])
  (h : ∀ x H2, H.Le H2 → Frozen H2 x n xs → CallO P f (svs.map (SV.at k x)) H2 ((G.set k .dead).map (SB.at k x)) K) : CallO P f svs H G K := by
 intro w0 M hgd H0 ρ w vs hs hv
 obtain ⟨x, H2, a1, a2, a3, a4⟩ := hs.frz hk hz
 have a5 := a1.kill k
 rw [List.set_set] at a5
 refine (h x H2 a2 a3 w0 M hgd H0 ρ w vs (a5.atAll a4) (all2_at a4 hv)).mono fun e w' he => ?_
 cases e with
 | returned v => obtain ⟨sv, ρ', H', G', h1, h2, h3, h4, h5⟩ := he; exact ⟨sv, ρ', H', G', h1, h2, h3, a2.trans h4, h5⟩
 | panicked ch => obtain ⟨ρ', H', G', h1, h2, h4, h5⟩ := he; exact ⟨ρ', H', G', h1, h2, a2.trans h4, h5⟩
 | outgrown => exact he
theorem WS.frz {n e : Nat} {D : Pin} {c : Code} {K : KT} {F : Fr} {H : Hp} {G : List SB} (k : Nat) {t : TypeId} {sz m : Nat} {xs : List Value} (hk : G[k]? = some (.row t sz m xs)) (hz : m = 0 → xs = [])
  (h : ∀ x H2, H.Le H2 → Frozen H2 x m xs → WS P n e D c K (frameAt k x F) H2 ((G.set k .dead).map (SB.at k x))) : WS P n e D c K F H G :=
 ⟨(codeL.frz k hk hz fun x H2 h1 h2 => codeL.ofS (h x H2 h1 h2)).to⟩
end
end Go.Kx
namespace Go.Kx
open Go.RowKit
section
variable {P : Program}
theorem CallO.of_calls_row {f : FuncId} {args : List Value} {H : Hp} {t : TypeId} {R : Nat → List Value → Prop}
  (h : ∀ w : World, GlW w → H.In w → Calls P f args.toArray w fun e w' => ∃ n cap xs cur, e = .returned (.slice (some ⟨w.heap.size, 0, none⟩) n cap) ∧ w'.heap[w.heap.size]? = some (.cells cur t (0, 0)) ∧ xs.length = n ∧ n ≤ cap ∧ cap ≤ maxLen ∧ cap ≤ cur.size ∧ cur.toList.take n = xs ∧ R n xs ∧ w.grownBy w' none) :
  CallO P f (args.map pv) H [] fun e H' G' => ∃ n xs, R n xs ∧ e = .ret (.si (.ce (.self 0))) ∧ H' = H ∧ G' = [.row t 1 n xs] := by
 intro w0 M hgd H0 ρ w vs hs hv
 obtain rfl := pv_all ρ hv
 refine (h w (fun g cs hc => hs.gl hgd hc) hs.hin).mono fun e w' he => ?_
 obtain ⟨n, cap, xs, cur, rfl, hc, hl, hn, hm, hcs, htk, hR, hg⟩ := he
 have hρ0 : ρ = [] := List.eq_nil_of_length_eq_zero hs.len
 subst hρ0
 have hs1 := hs.grew hg (fun g e => by cases e)
 have hs2 := hs1.adopt (s := .row t 1 n xs) (r := .slice (some ⟨w.heap.size, 0, none⟩) n cap)
  ⟨by rw [Nat.mul_one]; exact hl, .inr ⟨w.heap.size, 0, cap, cur, rfl, hc, hn, hm, by omega, by rw [List.drop_zero, Nat.mul_one]; exact htk⟩⟩
  (fun g hg2 => by
   have e : g = w.heap.size := by simp [SB.blk, Value.ownBlock] at hg2; exact hg2.symm
   subst e
   exact ⟨.inl hs.size, hs.fresh, fun k hk => absurd (hs.lt hk) (Nat.lt_irrefl _)⟩)
 exact ⟨.si (.ce (.self 0)), _, H, _, hs2, Pre.append _ _, rfl, .refl _, n, xs, hR, rfl, rfl, rfl⟩
theorem CallO.of_calls_turn {f : FuncId} {H : Hp} {t : TypeId} {n : Nat} {xs ys : List Value} {R : Value → Prop} (hn : 0 < n)
  (h : ∀ (w : World) (g o cap : Nat) (cur : Array Value), GlW w → H.In w → w.heap[g]? = some (.cells cur t (0, 0)) → n ≤ cap → o + cap ≤ cur.size → (cur.toList.drop o).take n = xs →
   Calls P f #[.slice (some ⟨g, o, none⟩) n cap] w fun e w' => ∃ v cur', e = .returned v ∧ R v ∧ w'.os = w.os ∧ w'.tape = w.tape ∧ w'.output = w.output ∧ w.heap.size ≤ w'.heap.size ∧ (∀ b, b < w.heap.size → b ≠ g → w'.heap[b]? = w.heap[b]?) ∧
    w'.heap[g]? = some (.cells cur' t (0, 0)) ∧ cur'.size = cur.size ∧ (cur'.toList.drop o).take n = ys ∧ ys.length = n) :
  CallO P f [.si (.ce (.self 0))] H [.row t 1 n xs] fun e H' G' => ∃ v, R v ∧ e = .ret (svOf v) ∧ H' = H ∧ G' = [.row t 1 n ys] := by
 intro w0 M hgd H0 ρ w vs hs hv
 obtain ⟨v0, rfl, hv0⟩ : ∃ v0, vs = [v0] ∧ ρ[0]? = some v0 := by
  cases hv with | cons h1 h2 => cases h2; exact ⟨_, rfl, h1⟩
 have hrow := hs.ok 0 _ _ rfl hv0
 rcases hrow.2 with ⟨_, h0⟩ | ⟨g, o, cap, cur, rfl, hg, hnc, hcm, hcs, htk⟩
 ·omega
 rw [Nat.mul_one] at hcs htk
 refine (h w g o cap cur (fun g cs hc => hs.gl hgd hc) hs.hin hg hnc hcs htk).mono fun e w' he => ?_
 obtain ⟨v, cur', rfl, hR, e1, e2, e3, e4, e5, e6, e7, e8, e9⟩ := he
 have hs2 := hs.turn (k := 0) (s' := .row t 1 n ys) rfl hv0 (g := g) rfl e1 e2 e3 e4 e5 ⟨by rw [Nat.mul_one]; exact e9, .inr ⟨g, o, cap, cur', rfl, e6, hnc, hcm, by omega, by rw [Nat.mul_one]; exact e8⟩⟩ (.inl rfl)
 exact ⟨svOf v, ρ, H, _, hs2, .refl _, svOf_is ρ v, .refl _, v, hR, rfl, rfl, rfl⟩
end
end Go.Kx
namespace Go.Kx
open Go.RowKit
def byteN (bs : List UInt8) (i : Nat) : Nat := (bs.getD i 0).toNat
def bCells (bs : List UInt8) : List Value := bs.map fun b => Value.int .u8 b.toNat
theorem bCells_get {bs : List UInt8} {i : Nat} (hi : i < bs.length) : (bCells bs)[i]? = some (.int .u8 (byteN bs i)) := by
 simp [bCells, byteN, hi, List.getD_eq_getElem?_getD]
theorem bget {bs : List UInt8} {i off : Nat} (hi : i < bs.length) (ho : off = i) : (bCells bs)[off]? = some (.int .u8 (byteN bs i)) := by subst ho; exact bCells_get hi
def BytesAt (H : Hp) (A : Option Addr) (n : Nat) (bs : List UInt8) : Prop := n = bs.length ∧ (A = none → bs = []) ∧ ∀ a, A = some a → RdN H (some a) 0 (bCells bs)
theorem BytesAt.mono {H H' : Hp} (h : H.Le H') {A : Option Addr} {n : Nat} {bs : List UInt8} (hb : BytesAt H A n bs) : BytesAt H' A n bs :=
 ⟨hb.1, hb.2.1, fun a e => let ⟨b, o, h1, h2⟩ := hb.2.2 a e; ⟨b, o, h1, fun j x hx => h _ _ _ (h2 j x hx)⟩⟩
theorem bCells_length (bs : List UInt8) : (bCells bs).length = bs.length := by simp [bCells]
theorem bCells_one (bs : List UInt8) : ∀ u ∈ bCells bs, u.oneCell' = true := by
 intro u hu
 obtain ⟨b, _, rfl⟩ := List.mem_map.1 hu
 rfl
theorem bCells_append (a b : List UInt8) : bCells a ++ bCells b = bCells (a ++ b) := by simp [bCells]
theorem bCells_drop (a : List UInt8) (n : Nat) : (bCells a).drop n = bCells (a.drop n) := by simp [bCells]
theorem one_int (k : IntKind) (x : Int) : ∀ u ∈ [Value.int k x], u.oneCell' = true := by
 intro u hu
 rcases List.mem_singleton.1 hu with rfl
 rfl
theorem bCells_snoc (a : List UInt8) (b : UInt8) {x : Int} (h : x = (b.toNat : Int)) : bCells a ++ [.int .u8 x] = bCells (a ++ [b]) := by
 rw [h]; exact bCells_append a [b]
theorem BytesAt.of_frozen {H : Hp} {x : Value} {n : Nat} {bs : List UInt8} (hn : n = bs.length) (h : Frozen H x n (bCells bs)) : ∃ A cap, x = .slice A n cap ∧ BytesAt H A n bs := by
 rcases h with ⟨rfl, h1, h2⟩ | ⟨g, o, cap, rfl, _, h2⟩
 ·subst h1
  have : bs = [] := List.eq_nil_of_length_eq_zero hn.symm
  exact ⟨none, 0, rfl, hn, fun _ => this, fun a e => (nomatch e)⟩
 ·exact ⟨_, cap, rfl, hn, fun e => (nomatch e), fun a e => by injection e with e; subst e; exact h2⟩
theorem BytesAt.lit {H : Hp} {a : Addr} {bs : List UInt8} {n : Nat} (hn : n = bs.length) (h : RdN H (some a) 0 (bCells bs)) : BytesAt H (some a) n bs :=
 ⟨hn, fun e => (nomatch e), fun b e => by injection e with e; subst e; exact h⟩
def BytesZ (H : Hp) (A : Option Addr) (n : Nat) (bs : List UInt8) : Prop := n = bs.length ∧ (A = none → bs = []) ∧ ∀ a, A = some a → n = 0 ∨ RdN H (some a) 0 (bCells bs)
theorem BytesAt.z {H : Hp} {A : Option Addr} {n : Nat} {bs : List UInt8} (h : BytesAt H A n bs) : BytesZ H A n bs := ⟨h.1, h.2.1, fun a e => .inr (h.2.2 a e)⟩
theorem BytesZ.mono {H H' : Hp} (h : H.Le H') {A : Option Addr} {n : Nat} {bs : List UInt8} (hb : BytesZ H A n bs) : BytesZ H' A n bs := ⟨hb.1, hb.2.1, fun a e => (hb.2.2 a e).imp id fun h2 => h2.mono h⟩
def RetB (bs : List UInt8) (e : SE) (H' : Hp) : Prop := ∃ A n cap, e = .ret (pv (.slice A n cap)) ∧ BytesAt H' A n bs
theorem CallO.bytes {P : Program} {f : FuncId} {svs : List SV} {H : Hp} {t : TypeId} {n : Nat} {bs : List UInt8} (hn : n = bs.length) (h : CallO P f svs H [] fun e _ G' => e = .ret (.si (.ce (.self 0))) ∧ G' = [.row t 1 n (bCells bs)]) :
  CallO P f svs H [] fun e H' G' => RetB bs e H' ∧ G' = [] := by
 refine CallO.sub (CallO.frz (K := fun e H' G' => (∃ A n cap, e = .ret (pv (.slice A n cap)) ∧ BytesAt H' A n bs) ∧ G' = [.dead]) h ?_) ?_
 ·rintro e H' G' hle ⟨rfl, rfl⟩
  refine ⟨0, t, 1, n, bCells bs, rfl, fun h0 => ?_, fun x H2 hle2 hfr => ?_⟩
  ·have : bs = [] := List.eq_nil_of_length_eq_zero (by omega)
   rw [this]; rfl
  ·obtain ⟨A, cap, rfl, hb⟩ := BytesAt.of_frozen hn hfr
   exact ⟨⟨A, n, cap, rfl, hb⟩, rfl⟩
 ·rintro e H' G' hle ⟨⟨A, n, cap, rfl, hb⟩, rfl⟩
  exact ⟨_, [], [], rfl, trivial, rfl, ⟨A, n, cap, rfl, hb⟩, rfl⟩
theorem strEq_self (b : ByteArray) : strEq b b = true := strEq_iff.2 rfl
def strOf (l : List UInt8) : ByteArray := ⟨l.toArray⟩
theorem cells_str (l : List UInt8) : bCells l = byteCells (strOf l) := by
 rw [byteCells_map]
 unfold bCells strOf
 rw [List.map_map]; rfl
end Go.Kx
namespace Go.Kx.Bu
open Go.Proofs Go.Kx Go.RowKit
theorem sizeB : ∃ j, Tryz.prog.info? 74 = some j ∧ j.size = 2 := by
 have h : (Tryz.prog.info? 74).map (·.size) = some 2 := by kernel_rfl
 obtain ⟨j, h1, h2⟩ := Option.map_eq_some_iff.1 h
 exact ⟨j, h1, h2⟩
set_option maxHeartbeats 1000000 in
set_option maxRecDepth 100000 in
theorem cc_used (b : Nat) (w : World) (h0 : w.cell? ⟨b, 0, none⟩ = some (.pointer (some ⟨b, 0, none⟩))) :
  Calls Tryz.prog 107 #[.pointer (some ⟨b, 0, none⟩)] w fun e w' => e = .returned (.tuple #[]) ∧ w' = w := by
 obtain ⟨j, hj, _⟩ := sizeB
 go_enter Tryz.func107, Tryz.ntmps107
 go_wp2
 rw [Lib.run_neq_ptr_same w _ Tryz.underlying72 hj]
 go_wp2
 first | go_end0 | skip
 exact ⟨rfl, rfl⟩
set_option maxHeartbeats 1000000 in
set_option maxRecDepth 100000 in
theorem cc_fresh (b : Nat) (w : World) (h0 : w.cell? ⟨b, 0, none⟩ = some (.pointer none)) (hsh : w.shape? b = some (74, 2)) (hfz : w.frozen? ⟨b, 0, none⟩ = false) :
  Calls Tryz.prog 107 #[.pointer (some ⟨b, 0, none⟩)] w fun e w' => e = .returned (.tuple #[]) ∧ w' = w.setCell ⟨b, 0, none⟩ (.pointer (some ⟨b, 0, none⟩)) := by
 obtain ⟨j, hj, hjs⟩ := sizeB
 go_enter Tryz.func107, Tryz.ntmps107
 go_wp2
 rw [Lib.run_to_unsafe w ⟨b, 0, none⟩ Tryz.underlying72 Tryz.underlying174 hj (by rw [hjs]; decide) hsh (Nat.zero_lt_succ 1)]
 simp only [Result.andThen]
 rw [Oper.upon_value]
 go_wp2
 rw [run_callFunc_extern Tryz.func145 (by kernel_rfl) (by kernel_rfl) (by kernel_rfl) (e := Extern.AbiNoEscape.same) (by kernel_rfl)]
 rw [Lib.run_noEscape]
 simp only [Result.andThen]
 rw [Oper.upon_value]
 go_wp2
 rw [Lib.run_from_unsafe w ⟨b, 0, none⟩ Tryz.underlying174 Tryz.underlying72 hj hsh (by kernel_rfl)]
 simp only [Result.andThen]
 rw [Oper.upon_value]
 go_wp2
 first | go_end0 | skip
 exact ⟨rfl, rfl⟩
end Go.Kx.Bu
namespace Go.Kx.Bu
open Go.Proofs Go.Kx Go.RowKit
set_option maxRecDepth 20000
def T : Tab := [(74, { k := TK.st [(0, 72, 1), (1, 55, 1)], agg := true, size := 2, bytes := 32, zero := [Z.p, Z.sl] }), (5, { k := TK.int IntKind.u8, agg := false, size := 1, bytes := 1, zero := [Z.i IntKind.u8] }), (72, { k := TK.ptr 74, agg := false, size := 1, bytes := 8, zero := [Z.p] }), (9, { k := TK.string, agg := false, size := 1, bytes := 16, zero := [Z.s] }), (55, { k := TK.slice 5, agg := false, size := 1, bytes := 24, zero := [Z.sl] }), (117, { k := TK.ptr 5, agg := false, size := 1, bytes := 8, zero := [Z.p] }), (3, { k := TK.int IntKind.i64, agg := false, size := 1, bytes := 8, zero := [Z.i IntKind.i64] }), (110, { k := TK.ifc, agg := false, size := 1, bytes := 16, zero := [Z.ifc] })]
set_option maxRecDepth 100000 in
theorem tab : TabOk Tryz.prog T := tabOk_mk (ts := [74, 5, 72, 9, 55, 117, 3, 110]) (by kernel_rfl)
theorem mixed : Tryz.prog.follows .mixedOrders = true := by kernel_rfl
abbrev me : SV := .si (.ce (.ptr 0 0))
def bX : Bool → SC
  | true => .ptr 0 0
  | false => .val (.pointer none)
def bB (w : Bool) (c : SC) : SB := .box 74 [bX w, c]
def rB (bs : List UInt8) : SB := .row 5 1 bs.length (bCells bs)
theorem copyCheck_ (b : Bool) (bs : List UInt8) (H : Hp) : CallO Tryz.prog 107 [me] H [bB b (.self 1), rB bs] fun e H' G' => e = .ret (.tu []) ∧ H' = H ∧ G' = [bB true (.self 1), rB bs] := by
  intro w0 M hgd H0 ρ w vs hs hv
  have hl : ρ.length = 2 := hs.len
  obtain ⟨r0, r1, rfl⟩ : ∃ r0 r1, ρ = [r0, r1] := by
    match ρ, hl with
    | [a, b], _ => exact ⟨a, b, rfl⟩
  obtain ⟨g, ys, rfl, hg, hys⟩ := hs.ok 0 _ r0 rfl rfl
  obtain ⟨y0, y1, rfl, h0, h1⟩ : ∃ y0 y1, ys = [y0, y1] ∧ (bX b).Is [.pointer (some ⟨g, 0, none⟩), r1] y0 ∧ (SC.self 1).Is [.pointer (some ⟨g, 0, none⟩), r1] y1 := by
    cases hys with | cons a b => cases b with | cons c d => cases d; exact ⟨_, _, rfl, a, c⟩
  obtain rfl : vs = [.pointer (some ⟨g, 0, none⟩)] := by
    cases hv with | cons a b =>
      cases b
      obtain ⟨r, hr, hp⟩ := a
      have hr : Value.pointer (some ⟨g, 0, none⟩) = r := Option.some.inj hr
      subst hr
      have hp : Value.pointer (some ⟨g, 0, none⟩) = _ := Option.some.inj hp
      rw [← hp]
  cases b with
  | true =>
    obtain ⟨r, hr, hp⟩ := h0
    have hr : Value.pointer (some ⟨g, 0, none⟩) = r := Option.some.inj hr
    subst hr
    have hp : Value.pointer (some ⟨g, 0, none⟩) = y0 := Option.some.inj hp
    subst hp
    refine (cc_used g w (by simp [World.cell?, hg])).mono fun e w' ⟨he, hw⟩ => ?_
    subst he hw
    exact ⟨.tu [], _, H, _, hs, .refl _, ⟨[], rfl, .nil⟩, .refl _, rfl, rfl, rfl⟩
  | false =>
    obtain rfl : y0 = .pointer none := h0
    refine (cc_fresh g w (by simp [World.cell?, hg]) (by simp [World.shape?, hg]) (by simp [World.frozen?, hg])).mono fun e w' ⟨he, hw⟩ => ?_
    subst he hw
    have hh : (w.setCell ⟨g, 0, none⟩ (.pointer (some ⟨g, 0, none⟩))).heap[g]? = some (.cells #[.pointer (some ⟨g, 0, none⟩), y1] 74 (0, 0)) := by
      unfold World.setCell
      simp only [Array.getElem?_modify, if_true, hg]; rfl
    have hn : ∀ j, j ≠ g → (w.setCell ⟨g, 0, none⟩ (.pointer (some ⟨g, 0, none⟩))).heap[j]? = w.heap[j]? := fun j hj => by
      unfold World.setCell
      simp only [Array.getElem?_modify]
      rw [if_neg (by omega)]
    have hsz : (w.setCell ⟨g, 0, none⟩ (.pointer (some ⟨g, 0, none⟩))).heap.size = w.heap.size := by unfold World.setCell; simp
    have hs2 := hs.turn (k := 0) (s' := bB true (.self 1)) rfl rfl (g := g) rfl (w' := w.setCell ⟨g, 0, none⟩ (.pointer (some ⟨g, 0, none⟩))) rfl rfl rfl (Nat.le_of_eq hsz.symm) (fun j _ hne => hn j hne) ⟨g, [.pointer (some ⟨g, 0, none⟩), y1], rfl, hh, .cons ⟨_, rfl, rfl⟩ (.cons h1 .nil)⟩ (.inl rfl)
    exact ⟨.tu [], _, H, _, hs2, .refl _, ⟨[], rfl, .nil⟩, .refl _, rfl, rfl, rfl⟩
theorem writeByte (b : Bool) (bs : List UInt8) (c : UInt8) (x : Int) (hx : x = (c.toNat : Int)) (hn : bs.length ≤ 10000000) (H : Hp) : CallO Tryz.prog 76 [me, pv (.int .u8 x)] H [bB b (.self 1), rB bs] fun e H' G' => e = .ret (pv .nilIface) ∧ H.Le H' ∧ G' = [bB true (.self 2), .dead, rB (bs ++ [c])] := by
  refine CallO.of_body tab Tryz.func76 rfl (nt := Tryz.f76.ntmps) rfl (by kernel_rfl) ?_
  cases b
  all_goals
    (conv => whnf)
    first
      | refine ⟨⟨_, Tryz.func107, rfl, by kernel_rfl⟩, CallS.use (copyCheck_ true bs H) [0, 1] rfl rfl ⟨rfl, rfl, trivial⟩ ?_⟩
      | refine ⟨⟨_, Tryz.func107, rfl, by kernel_rfl⟩, CallS.use (copyCheck_ false bs H) [0, 1] rfl rfl ⟨rfl, rfl, trivial⟩ ?_⟩
    rintro e H2 G' hle ⟨rfl, rfl, rfl⟩
    (conv => whnf)
    refine ⟨by decide, .inl ?_⟩
    intro g H3 hle3 hrd
    (conv => whnf)
    refine ⟨_, rfl, hrd, one_int _ _, ?_⟩
    (conv => whnf)
    refine ⟨by show _ * 2 ≤ _; omega, ?_⟩
    (conv => whnf)
    refine ⟨rfl, hle3, ?_⟩
    rw [bCells_snoc bs c hx]
    show [_, _, _] = [_, _, SB.row _ 1 _ _]
    rw [List.length_append]; rfl
theorem byteCells_eq (s : ByteArray) : byteCells s = bCells s.data.toList := by rw [byteCells_map]; unfold bCells; rw [List.map_map]; rfl
theorem writeString (b : Bool) (bs : List UInt8) (s : ByteArray) (hn : bs.length ≤ 10000000) (hs : s.size ≤ 10000000) (H : Hp) : CallO Tryz.prog 73 [me, pv (.string s)] H [bB b (.self 1), rB bs] fun e H' G' => e = .ret (.tu [.ce (.val (.int .i64 s.size)), .ce (.val .nilIface)]) ∧ H.Le H' ∧ G' = [bB true (.self 2), .dead, rB (bs ++ s.data.toList)] := by
  refine CallO.of_body tab Tryz.func73 rfl (nt := Tryz.f73.ntmps) rfl (by kernel_rfl) ?_
  cases b
  all_goals
    (conv => whnf)
    first
      | refine ⟨⟨_, Tryz.func107, rfl, by kernel_rfl⟩, CallS.use (copyCheck_ true bs H) [0, 1] rfl rfl ⟨rfl, rfl, trivial⟩ ?_⟩
      | refine ⟨⟨_, Tryz.func107, rfl, by kernel_rfl⟩, CallS.use (copyCheck_ false bs H) [0, 1] rfl rfl ⟨rfl, rfl, trivial⟩ ?_⟩
    rintro e H2 G' hle ⟨rfl, rfl, rfl⟩
    (conv => whnf)
    refine ⟨by show _ * 2 ≤ _; omega, ?_⟩
    (conv => whnf)
    refine ⟨rfl, .refl _, ?_⟩
    rw [byteCells_eq, bCells_append]
    show [_, _, SB.row _ 1 _ _] = [_, _, SB.row _ 1 _ _]
    rw [List.length_append, Array.length_toList]; rfl
theorem strSize (bs : List UInt8) : (strOf bs).size = bs.length := by show bs.toArray.size = _; rw [List.size_toArray]
theorem string_ (b : Bool) (bs : List UInt8) (hn : bs.length ≤ 10000000) (H : Hp) : CallO Tryz.prog 39 [me] H [bB b (.self 1), rB bs] fun e H' G' => H' = H ∧ e = .ret (pv (.string ⟨bs.toArray⟩)) ∧ (G' = [bB b (.self 1), .dead] ∨ G' = [bB b (.self 1), rB bs]) := by
  refine CallO.of_body tab Tryz.func39 rfl (nt := Tryz.f39.ntmps) rfl (by kernel_rfl) ?_
  cases b
  all_goals
    (conv => whnf)
    refine WS.draw tab mixed (.take 0 (.take 1 (.take 2 (.take 3 (.take 5 (.take 6 (.take 7 (.take 8 (.alt 4 (.alt 9 (.alt 10 (.take 11 .done) .no) .no) (.alt 9 (.alt 4 (.alt 10 (.take 11 .done) .no) .no) .no)))))))))) (by kernel_rfl) [1] ?_
    (conv => whnf)
    repeat' (first
      | exact trivial
      | exact rfl
      | exact .inl rfl
      | exact .inr rfl
      | (have hb0 : bs = [] := List.eq_nil_of_length_eq_zero (by omega)
         subst hb0
         rfl)
      | (refine ⟨strOf bs, cells_str bs, by rw [strSize], by rw [strSize]; omega, ?_⟩; (conv => whnf))
      | (intro A; (conv => whnf))
      | (exfalso; omega)
      | (refine And.intro (fun h => ?_) (fun h => ?_) <;> (conv => whnf))
      | (refine And.intro ?_ ?_ <;> (conv => whnf)))
end Go.Kx.Bu
namespace Go.Proofs
open Go.Shelf
def Tryz.laysIB_ren : Go.Shelf.Ren := ⟨fun | 137 => 100 | 217 => 136 | 266 => 175 | n => n, fun | 9 => 9 | 5 => 5 | 3 => 3 | n => n, fun | n => n⟩
theorem Tryz.laysIB : Go.Proofs.Lays.n137 Tryz.prog Tryz.laysIB_ren where
 mixed := by kernel_rfl
 f137 := Tryz.func100.trans (congrArg some (by kernel_rfl))
 f217 := Tryz.func136.trans (congrArg some (by kernel_rfl))
 f266 := Tryz.func175.trans (congrArg some (by kernel_rfl))
 t3 := Tryz.underlying3
 a3 := Tryz.isAgg3
 z3 := Tryz.sizeOf3
 v3 := Tryz.zeroValue3
 t5 := Tryz.underlying5
 a5 := Tryz.isAgg5
 z5 := Tryz.sizeOf5
 v5 := Tryz.zeroValue5
 t9 := Tryz.underlying9
 a9 := Tryz.isAgg9
 z9 := Tryz.sizeOf9
 v9 := Tryz.zeroValue9

end Go.Proofs
namespace Go.Kx.Js
open Go.Proofs Go.Kx Go.RowKit
set_option maxRecDepth 20000
def ixB (s : List UInt8) (c : UInt8) : Int := Lib.indexByte s c
theorem indexByte (s : ByteArray) (c : UInt8) (H : Hp) (G : List SB) : CallO Tryz.prog 100 [pv (.string s), pv (.int .u8 (c.toNat : Int))] H G fun e H' G' => e = .ret (pv (.int .i64 (ixB s.data.toList c))) ∧ H' = H ∧ G' = G := by
 refine (CallO.of_calls (args := [.string s, .int .u8 (c.toNat : Int)]) (R := fun v => v = .int .i64 (ixB s.data.toList c)) fun w _ _ => ?_).mono ?_
 ·refine (Any.strings_IndexByte Tryz.laysIB s (c.toNat : Int) w).mono fun e w' ⟨he, hw⟩ => ⟨_, he, ?_, ?_⟩
  ·unfold ixB
   congr 2
   show (c.toNat).toUInt8 = c
   simp
  ·subst hw; exact grown_refl _
 ·rintro e H' G' hle ⟨v, rfl, rfl, rfl, rfl⟩
  exact ⟨rfl, rfl, rfl⟩
end Go.Kx.Js
namespace Go.Kx.Js
open Go.Kx Go.RowKit

inductive J
 | mk (kind : Int) (yes : Bool) (text : ByteArray) (list : List J) (mems : List (ByteArray × J))
abbrev Ms := List (ByteArray × J)
def J.kind : J → Int | .mk k _ _ _ _ => k
def J.yes : J → Bool | .mk _ y _ _ _ => y
def J.text : J → ByteArray | .mk _ _ t _ _ => t
def J.list : J → List J | .mk _ _ _ l _ => l
def J.mems : J → Ms | .mk _ _ _ _ m => m
def jNull : J := .mk 1 false ⟨#[]⟩ [] []
def jTruth (b : Bool) : J := .mk 2 b ⟨#[]⟩ [] []
def jNum (t : ByteArray) : J := .mk 3 false t [] []
def jStr (t : ByteArray) : J := .mk 4 false t [] []
def jArr (l : List J) : J := .mk 5 false ⟨#[]⟩ l []
def jObj (m : Ms) : J := .mk 6 false ⟨#[]⟩ [] m
def jNone : J := .mk 0 false ⟨#[]⟩ [] []

def RdV (H : Hp) (A : Option Addr) (xs : List Value) : Prop := (A = none → xs = []) ∧ ∀ a, A = some a → RdN H (some a) 0 xs
theorem RdV.mono {H H' : Hp} (h : H.Le H') {A : Option Addr} {xs : List Value} (hb : RdV H A xs) : RdV H' A xs := ⟨hb.1, fun a e => (hb.2 a e).mono h⟩
theorem RdV.of_frozen {H : Hp} {x : Value} {n : Nat} {vs : List Value} (h : Frozen H x n vs) : ∃ A cap, x = .slice A n cap ∧ RdV H A vs := by
 rcases h with ⟨rfl, h1, h2⟩ | ⟨g, o, cap, rfl, _, h2⟩
 ·subst h1
  exact ⟨none, 0, rfl, fun _ => h2, fun _ e => (nomatch e)⟩
 ·exact ⟨_, cap, rfl, fun e => (nomatch e), fun a e => by injection e with e; subst e; exact h2⟩
theorem RdV.nil (H : Hp) : RdV H none [] := ⟨fun _ => rfl, fun _ e => (nomatch e)⟩

mutual
inductive JAt (H : Hp) : J → List Value → Prop
 | mk {k : Int} {y : Bool} {t : ByteArray} {js : List J} {ms : Ms} {A : Option Addr} {n c : Nat} {B : Option Addr} {m d : Nat} {xs zs : List Value} :
  n = js.length → JsAt H js xs → RdV H A xs → m = ms.length → MsAt H ms zs → RdV H B zs → JAt H (.mk k y t js ms) [.int .i64 k, .bool y, .string t, .slice A n c, .slice B m d]
inductive JsAt (H : Hp) : List J → List Value → Prop
 | nil : JsAt H [] []
 | cons {j : J} {cs : List Value} {js : List J} {xs : List Value} : JAt H j cs → JsAt H js xs → JsAt H (j :: js) (cs ++ xs)
inductive MsAt (H : Hp) : Ms → List Value → Prop
 | nil : MsAt H [] []
 | cons {s : ByteArray} {j : J} {cs : List Value} {ms : Ms} {xs : List Value} : JAt H j cs → MsAt H ms xs → MsAt H ((s, j) :: ms) (.string s :: cs ++ xs)
end
mutual
theorem JAt.mono {H H' : Hp} (h : H.Le H') {j : J} {cs : List Value} : JAt H j cs → JAt H' j cs
 | .mk h1 h2 h3 h4 h5 h6 => .mk h1 (h2.mono h) (h3.mono h) h4 (h5.mono h) (h6.mono h)
theorem JsAt.mono {H H' : Hp} (h : H.Le H') {j : List J} {cs : List Value} : JsAt H j cs → JsAt H' j cs
 | .nil => .nil
 | .cons h1 h2 => .cons (h1.mono h) (h2.mono h)
theorem MsAt.mono {H H' : Hp} (h : H.Le H') {j : Ms} {cs : List Value} : MsAt H j cs → MsAt H' j cs
 | .nil => .nil
 | .cons h1 h2 => .cons (h1.mono h) (h2.mono h)
end
theorem JAt.length {H : Hp} {j : J} {cs : List Value} (h : JAt H j cs) : cs.length = 5 := by cases h; rfl
theorem JsAt.length {H : Hp} : ∀ {js : List J} {xs : List Value}, JsAt H js xs → xs.length = js.length * 5
 | _, _, .nil => rfl
 | _, _, .cons h1 h2 => by rw [List.length_append, h1.length, h2.length, List.length_cons]; omega
theorem MsAt.length {H : Hp} : ∀ {js : Ms} {xs : List Value}, MsAt H js xs → xs.length = js.length * 6
 | _, _, .nil => rfl
 | _, _, .cons h1 h2 => by rw [List.length_append, List.length_cons, h1.length, h2.length, List.length_cons]; omega
theorem JsAt.snoc {H : Hp} : ∀ {js : List J} {xs : List Value} {j : J} {cs : List Value}, JsAt H js xs → JAt H j cs → JsAt H (js ++ [j]) (xs ++ cs)
 | _, _, j, cs, .nil, h => by have := JsAt.cons h .nil; rwa [List.append_nil] at this
 | _, _, j, cs, .cons h1 h2, h => by rw [List.append_assoc]; exact .cons h1 (JsAt.snoc h2 h)
theorem MsAt.snoc {H : Hp} : ∀ {js : Ms} {xs : List Value} {s : ByteArray} {j : J} {cs : List Value}, MsAt H js xs → JAt H j cs → MsAt H (js ++ [(s, j)]) (xs ++ .string s :: cs)
 | _, _, s, j, cs, .nil, h => by have := MsAt.cons (s := s) h .nil; rwa [List.append_nil] at this
 | _, _, s, j, cs, .cons h1 h2, h => by rw [List.append_assoc]; exact .cons h1 (MsAt.snoc h2 h)
theorem JAt.bare {H : Hp} (k : Int) (y : Bool) (t : ByteArray) : JAt H (.mk k y t [] []) [.int .i64 k, .bool y, .string t, .slice none 0 0, .slice none 0 0] :=
 .mk rfl .nil (.nil H) rfl .nil (.nil H)
theorem MsAt.get {H : Hp} : ∀ {ms : Ms} {xs : List Value}, MsAt H ms xs → ∀ {i : Nat} {s : ByteArray} {j : J}, ms[i]? = some (s, j) → ∃ cs, JAt H j cs ∧ (xs.drop (i * 6)).take 6 = .string s :: cs
 | _, _, .nil, i, s, j, h => by simp at h
 | _, _, .cons (s := s0) (cs := cs) (xs := xs) h1 h2, i, s, j, h => by
  have hl := h1.length
  cases i with
  | zero =>
   simp at h
   obtain ⟨rfl, rfl⟩ := h
   refine ⟨cs, h1, ?_⟩
   rw [Nat.zero_mul, List.drop_zero, List.take_append_of_le_length (by simp [hl]), List.take_of_length_le (by simp [hl])]
  | succ i =>
   obtain ⟨cs', h3, h4⟩ := MsAt.get h2 (i := i) (by simpa using h)
   refine ⟨cs', h3, ?_⟩
   rw [show (i + 1) * 6 = (Value.string s0 :: cs).length + i * 6 by simp [hl]; omega, ← List.drop_drop, List.drop_left]
   exact h4
theorem JsAt.get {H : Hp} : ∀ {js : List J} {xs : List Value}, JsAt H js xs → ∀ {i : Nat} {j : J}, js[i]? = some j → ∃ cs, JAt H j cs ∧ (xs.drop (i * 5)).take 5 = cs
 | _, _, .nil, i, j, h => by simp at h
 | _, _, .cons (cs := cs) (xs := xs) h1 h2, i, j, h => by
  have hl := h1.length
  cases i with
  | zero =>
   simp at h
   subst h
   refine ⟨cs, h1, ?_⟩
   rw [Nat.zero_mul, List.drop_zero, List.take_append_of_le_length (by omega), List.take_of_length_le (by omega)]
  | succ i =>
   obtain ⟨cs', h3, h4⟩ := JsAt.get h2 (i := i) (by simpa using h)
   refine ⟨cs', h3, ?_⟩
   rw [show (i + 1) * 5 = cs.length + i * 5 by rw [hl]; omega, ← List.drop_drop, List.drop_left]
   exact h4

theorem cells_at {xs ys : List Value} {a m : Nat} (h : (xs.drop a).take m = ys) {off : Nat} (ho : off = a) : ∀ (j : Nat) (x : Value), ys[j]? = some x → xs[off + j]? = some x := by
 intro j x hx
 rw [← h, List.getElem?_take] at hx
 split at hx
 ·rw [List.getElem?_drop] at hx; rw [ho]; exact hx
 ·cases hx
theorem JAt.cells {H : Hp} {j : J} {cs : List Value} (h : JAt H j cs) : ∃ A n c B m d, cs = [.int .i64 j.kind, .bool j.yes, .string j.text, .slice A n c, .slice B m d] := by
 cases h with | mk => exact ⟨_, _, _, _, _, _, rfl⟩

inductive Res (α : Type)
 | ok (x : α) (r : List UInt8)
 | no (e : Nat) (r : List UInt8)
def Res.bind {α β : Type} (a : Res α) (f : α → List UInt8 → Res β) : Res β :=
 match a with
 | .ok x r => f x r
 | .no e r => .no e r
def pk : List UInt8 → UInt8
 | [] => 0
 | c :: _ => c
def tk (c : UInt8) : List UInt8 → Option (List UInt8)
 | [] => none
 | x :: r => if x = c then some r else none
def mustP (c : UInt8) (l : List UInt8) : Res Unit :=
 match tk c l with
 | some r => .ok () r
 | none => .no 31 l
def isBlank (c : UInt8) : Bool := c == 32 || c == 9 || c == 10 || c == 13
def blankP : List UInt8 → List UInt8
 | [] => []
 | c :: r => if isBlank c then blankP r else c :: r
def wordP : List UInt8 → List UInt8 → Res Unit
 | [], l => .ok () l
 | c :: w, l => (mustP c l).bind fun _ r => wordP w r
def isDig (c : UInt8) : Bool := decide (48 ≤ c.toNat) && decide (c.toNat ≤ 57)
def digsP : List UInt8 → List UInt8
 | [] => []
 | c :: r => if isDig c then digsP r else c :: r
def digitsP (l : List UInt8) : Res Unit := if isDig (pk l) then .ok () (digsP l) else .no 31 l
def optP (c : UInt8) (l : List UInt8) : List UInt8 := (tk c l).getD l
def tkB (c : UInt8) (l : List UInt8) : Bool := (tk c l).isSome
def num1 (l : List UInt8) : Res Unit := if tkB 48 l then .ok () (optP 48 l) else digitsP (optP 48 l)
def num2 (l : List UInt8) : Res Unit := if tkB 46 l then digitsP (optP 46 l) else .ok () (optP 46 l)
def num4 (l : List UInt8) : Res Unit := if tkB 43 l then digitsP (optP 43 l) else digitsP (optP 45 (optP 43 l))
def num3 (l : List UInt8) : Res Unit := if tkB 101 l then num4 (optP 101 l) else if tkB 69 (optP 101 l) then num4 (optP 69 (optP 101 l)) else .ok () (optP 69 (optP 101 l))
def numberP (l : List UInt8) : Res ByteArray :=
 (num1 (optP 45 l)).bind fun _ l2 => (num2 l2).bind fun _ l3 => (num3 l3).bind fun _ l4 => .ok ⟨(l.take (l.length - l4.length)).toArray⟩ l4
def hexD (c : UInt8) : Option Nat :=
 if 48 ≤ c.toNat ∧ c.toNat ≤ 57 then some (c.toNat - 48) else if 97 ≤ c.toNat ∧ c.toNat ≤ 102 then some (c.toNat - 87) else if 65 ≤ c.toNat ∧ c.toNat ≤ 70 then some (c.toNat - 55) else none
def hexP : Nat → Nat → List UInt8 → Res Nat
 | 0, n, l => .ok n l
 | k + 1, n, l => match hexD (pk l) with
  | some d => hexP k (n * 16 + d) l.tail
  | none => .no 31 l
def behindU (l : List UInt8) : Option (List UInt8) :=
 match tk 92 l with
 | none => none
 | some l2 => tk 117 l2
def unitP (fr l : List UInt8) : Res Nat := (hexP 4 0 l).bind fun a l1 =>
 if a < 55296 ∨ 57344 ≤ a then .ok a l1 else
 if 56320 ≤ a then .no 31 fr else
 match behindU l1 with
 | none => .no 31 fr
 | some l3 => (hexP 4 0 l3).bind fun b l4 => if b < 56320 ∨ 57344 ≤ b then .no 31 fr else .ok (65536 + (a - 55296) * 1024 + (b - 56320)) l4
def by1 (y : Int) : UInt8 := UInt8.ofNat (IntKind.u8.wrap y).toNat
theorem by1_eq (y : Int) : IntKind.u8.wrap y = ((by1 y).toNat : Int) := by
 have h : IntKind.u8.wrap y = y % 256 := by simp [IntKind.wrap, IntKind.bits, IntKind.signed]
 unfold by1
 rw [h, UInt8.toNat_ofNat']
 omega
def or8 (a b : Int) : Int := ((BitVec.ofInt IntKind.u8.bits a ||| BitVec.ofInt IntKind.u8.bits b).toNat : Int)
def and8 (a b : Int) : Int := ((BitVec.ofInt IntKind.u8.bits a &&& BitVec.ofInt IntKind.u8.bits b).toNat : Int)
def sh32 (x y : Int) : Int := IntKind.u8.wrap (x.fdiv (2 ^ min (Int.toNat y) IntKind.i32.bits))
def runeB (x : Int) : List UInt8 :=
 if x ≤ 127 then [by1 x] else
 if x ≤ 2047 then [by1 (or8 192 (sh32 x 6)), by1 (or8 128 (IntKind.u8.wrap (and8 (IntKind.u8.wrap x) 63)))] else
 if x ≤ 65535 then [by1 (or8 224 (sh32 x 12)), by1 (or8 128 (IntKind.u8.wrap (and8 (sh32 x 6) 63))), by1 (or8 128 (IntKind.u8.wrap (and8 (IntKind.u8.wrap x) 63)))] else
 [by1 (or8 240 (sh32 x 18)), by1 (or8 128 (IntKind.u8.wrap (and8 (sh32 x 12) 63))), by1 (or8 128 (IntKind.u8.wrap (and8 (sh32 x 6) 63))), by1 (or8 128 (IntKind.u8.wrap (and8 (IntKind.u8.wrap x) 63)))]
def shortB (c : UInt8) : Option UInt8 :=
 if c = 98 then some 8 else if c = 102 then some 12 else if c = 110 then some 10 else if c = 114 then some 13 else if c = 116 then some 9 else if c = 34 then some 34 else if c = 92 then some 92 else none
def escP (fr l : List UInt8) : Res (List UInt8) :=
 match shortB (pk l) with
 | some b => .ok [b] l.tail
 | none => match tk 47 l with
  | some r => .ok [47] r
  | none => match tk 117 l with
   | some r => (unitP fr r).bind fun n r2 => .ok (runeB (n : Int)) r2
   | none => .no 31 l
def strP : Nat → List UInt8 → List UInt8 → Res (List UInt8)
 | 0, _, l => .no 0 l
 | k + 1, b, l => match tk 34 l with
  | some r => .ok b r
  | none => match tk 92 l with
   | some r => (escP l r).bind fun x r2 => strP k (b ++ x) r2
   | none => if (pk l).toNat < 32 then .no 31 l else strP k (b ++ [pk l]) l.tail
def textP (l : List UInt8) : Res ByteArray := (mustP 34 l).bind fun _ r => (strP (r.length + 1) [] r).bind fun b r2 => .ok ⟨b.toArray⟩ r2
def rowP {α : Type} (one : α → List UInt8 → Res α) (en : UInt8) : Nat → Bool → α → List UInt8 → Res α
 | 0, _, _, l => .no 0 l
 | k + 1, first, x, l => match (if first then tk en l else none) with
  | some r => .ok x r
  | none => (one x l).bind fun y l1 => match tk en (blankP l1) with
   | some r => .ok y r
   | none => (mustP 44 (blankP l1)).bind fun _ l3 => rowP one en k false y (blankP l3)
def getP (ms : Ms) (s : ByteArray) : Option J :=
 match ms with
 | [] => none
 | (t, j) :: r => if t = s then some j else getP r s
def memP (val : List UInt8 → Res J) (ms : Ms) (l : List UInt8) : Res Ms :=
 (textP l).bind fun s l1 => match getP ms s with
  | some _ => .no 15 l
  | none => (mustP 58 (blankP l1)).bind fun _ l2 => (val (blankP l2)).bind fun j l3 => .ok (ms ++ [(s, j)]) l3
def elP (val : List UInt8 → Res J) (js : List J) (l : List UInt8) : Res (List J) := (val l).bind fun j r => .ok (js ++ [j]) r
def enterP (c : UInt8) (l : List UInt8) : Res Unit := (mustP c l).bind fun _ r => .ok () (blankP r)
def valS (deeper : Option (List UInt8 → Res J)) (l : List UInt8) : Res J :=
 let c := (pk l).toNat
 if c = 110 then (wordP [110, 117, 108, 108] l).bind fun _ r => .ok jNull r else
 if c = 116 then (wordP [116, 114, 117, 101] l).bind fun _ r => .ok (jTruth true) r else
 if c = 102 then (wordP [102, 97, 108, 115, 101] l).bind fun _ r => .ok (jTruth false) r else
 if c = 34 then (textP l).bind fun s r => .ok (jStr s) r else
 if c = 91 then match deeper with
  | none => .no 32 l
  | some val => (enterP 91 l).bind fun _ r => (rowP (elP val) 93 (r.length + 1) true [] r).bind fun js r2 => .ok (jArr js) r2
 else
 if c = 123 then match deeper with
  | none => .no 32 l
  | some val => (enterP 123 l).bind fun _ r => (rowP (memP val) 125 (r.length + 1) true [] r).bind fun ms r2 => .ok (jObj ms) r2
 else
 if c = 45 ∨ isDig (pk l) then (numberP l).bind fun s r => .ok (jNum s) r else .no 31 l
def valP : Nat → List UInt8 → Res J
 | 0 => valS none
 | d + 1 => valS (some (valP d))
def wholeP (d : Nat) (l : List UInt8) : Res J := (valP d (blankP l)).bind fun j r => match blankP r with
 | [] => .ok j []
 | c :: r2 => .no 31 (c :: r2)

def Sfx (r l : List UInt8) : Prop := ∃ p, l = p ++ r
theorem Sfx.refl (l : List UInt8) : Sfx l l := ⟨[], rfl⟩
theorem Sfx.trans {a b c : List UInt8} (h : Sfx a b) (h' : Sfx b c) : Sfx a c := by
 obtain ⟨p, rfl⟩ := h; obtain ⟨q, rfl⟩ := h'; exact ⟨q ++ p, by rw [List.append_assoc]⟩
theorem Sfx.tail {c : UInt8} {r l : List UInt8} (h : Sfx (c :: r) l) : Sfx r l := by obtain ⟨p, rfl⟩ := h; exact ⟨p ++ [c], by simp⟩
theorem Sfx.le {r l : List UInt8} (h : Sfx r l) : r.length ≤ l.length := by obtain ⟨p, rfl⟩ := h; simp
theorem Sfx.drop {r l : List UInt8} (h : Sfx r l) : l.drop (l.length - r.length) = r := by
 obtain ⟨p, rfl⟩ := h
 rw [List.length_append, Nat.add_sub_cancel, List.drop_left]
theorem blankP_sfx : ∀ l : List UInt8, Sfx (blankP l) l
 | [] => .refl _
 | c :: r => by
  unfold blankP
  split
  ·exact (blankP_sfx r).trans ⟨[c], rfl⟩
  ·exact .refl _
theorem digsP_sfx : ∀ l : List UInt8, Sfx (digsP l) l
 | [] => .refl _
 | c :: r => by
  unfold digsP
  split
  ·exact (digsP_sfx r).trans ⟨[c], rfl⟩
  ·exact .refl _
theorem tk_some {c : UInt8} {l r : List UInt8} (h : tk c l = some r) : l = c :: r := by
 cases l with
 | nil => cases h
 | cons x l =>
  simp only [tk] at h
  by_cases hx : x = c
  ·rw [if_pos hx] at h; subst hx; injection h with h; rw [h]
  ·rw [if_neg hx] at h; cases h
theorem tk_sfx {c : UInt8} {l r : List UInt8} (h : tk c l = some r) : Sfx r l := ⟨[c], tk_some h⟩
end Go.Kx.Js
