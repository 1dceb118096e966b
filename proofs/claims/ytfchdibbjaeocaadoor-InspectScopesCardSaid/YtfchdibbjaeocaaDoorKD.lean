/- A function that defers one call, and a deferred call that recovers. Generic in the program; no condition of its own. -/
import Derived.Test.YtfchdibbjaeocaaDoorK15
import Derived.Recover
namespace Go.Kx
open Go.RowKit

section
variable {P : Program} {n : Nat} {D : Pin}
/-- A region's first operations. -/
theorem opsX_gen {T : Tab} (hT : TabOk P T) {ops : Array Oper} {Q : Exit → Act → World → Prop} {Kp : List PanicEntry → Hp → List SB → Prop} {Kn : Fr → Hp → List SB → Prop} {w0 : World} {M : Nat → Prop} {H0 : Hp} (hgd : Gd w0 M) :
    ∀ (r : List Oper) (i : Nat) (F : Fr) (H : Hp) (G : List SB) (rest : List Oper), (∀ j, (r ++ rest)[j]? = ops[i + j]?) → opsX P T n D.ps ops.toList Kp i r F H G Kn →
    ∀ (ρ : List Value) (a : Act) (w : World), St w0 M H0 ρ H G w → FOk ρ F a.tmps → D.On a → a.tmps.size = n →
      (∀ F' H' G' ρ' a' w', St w0 M H0 ρ' H' G' w' → Pre ρ ρ' → FOk ρ' F' a'.tmps → D.On a' → a'.tmps.size = n → H.Le H' → Kn F' H' G' → wpOps P ops Q ((List.range ops.size).drop (i + r.length)) a' w') →
      (∀ ch ρ' H' G' a' w', St w0 M H0 ρ' H' G' w' → Pre ρ ρ' → D.On a' → H.Le H' → Kp ch H' G' → Q (.panic ch) a' w') →
      wpOps P ops Q ((List.range ops.size).drop i) a w
  | [], i, F, H, G, rest, hr, h, ρ, a, w, hs, hf, hd, hn, hN, hP => by
    have := hN F H G ρ a w hs (.refl _) hf hd hn (.refl _) h
    simpa using this
  | o :: r, i, F, H, G, rest, hr, h, ρ, a, w, hs, hf, hd, hn, hN, hP => by
    have ho : ops[i]? = some o := by have := hr 0; simpa using this.symm
    have hi : i < ops.size := (Array.getElem?_eq_some_iff.1 ho).1
    have hl : (List.range ops.size).drop i = i :: (List.range ops.size).drop (i + 1) := by
      rw [List.drop_eq_getElem_cons (by simpa using hi)]; simp
    have hr' : ∀ j, (r ++ rest)[j]? = ops[i + 1 + j]? := fun j => by have := hr (j + 1); simp at this; rw [this]; congr 1; omega
    have hlen : i + (o :: r).length = i + 1 + r.length := by simp; omega
    rw [hlen] at hN
    rw [opsX_cons] at h
    obtain ⟨b, h, hw⟩ := wantX_ok (ops := ops) h
    rw [hl]
    simp only [wpOps, ho]
    rw [hw ρ a hf]
    cases b with
    | true =>
      simp only [if_true]
      left
      refine upon_of_out (opX_ok hT h w0 M hgd H0 ρ a w hs hf) ?_ ?_
      · rintro v w' ⟨sv, ρ', H', G', h1, h2, h3, h4, h5⟩
        obtain ⟨sv', h5, h6⟩ := partBool_ok h5
        obtain ⟨F', h5, h8, h7⟩ := putX_ok h5
        have hf' := h7 ρ' a v hn (hf.mono h2) (h6 ρ' v h3)
        exact opsX_gen hT hgd r (i + 1) F' H' G' rest hr' h5 ρ' (a.put o.dst v) w' h1 hf' (hd.put h8 _) (by rw [put_size]; exact hn)
          (fun F2 H2 G2 ρ2 a2 w2 b1 b2 b3 b4 b5 b6 b7 => hN F2 H2 G2 ρ2 a2 w2 b1 (h2.trans b2) b3 b4 b5 (h4.trans b6) b7)
          (fun ch ρ2 H2 G2 a2 w2 b1 b2 b3 b4 b5 => hP ch ρ2 H2 G2 a2 w2 b1 (h2.trans b2) b3 (h4.trans b4) b5)
      · rintro ch w' ⟨ρ', H', G', h1, h2, h4, h5⟩
        exact hP ch ρ' H' G' a w' h1 h2 hd h4 h5
    | false =>
      simp only [Bool.false_eq_true, if_false]
      obtain ⟨F', h5, h8, h7⟩ := putX_ok h
      have hf' := h7 ρ a undef hn hf rfl
      exact opsX_gen hT hgd r (i + 1) F' H G rest hr' h5 ρ (a.put o.dst undef) w hs hf' (hd.put h8 _) (by rw [put_size]; exact hn) hN hP

/-- What a deferred call of f comes to while its caller is in mode u. -/
def CallDO (P : Program) (f : FuncId) (svs : List SV) (u : FrameMode) (H : Hp) (G : List SB) (K : FrameMode → Hp → List SB → Prop) : Prop :=
  ∀ (w0 : World) (M : Nat → Prop) (_ : Gd w0 M) (H0 : Hp) (ρ : List Value) (w : World) (vs : List Value), St w0 M H0 ρ H G w → All2 (SV.Is ρ) svs vs →
    CallsD P f vs.toArray u w fun e u' w' => match e with
      | .returned _ => ∃ ρ' H' G', St w0 M H0 ρ' H' G' w' ∧ Pre ρ ρ' ∧ H.Le H' ∧ K u' H' G'
      | _ => False
/-- What 'recover()' yields, and the caller's mode behind it. -/
def recX (u : FrameMode) (K : Value → FrameMode → Prop) : Prop :=
  match u with
  | .returning => K .nilIface .returning
  | .panicking [⟨v, false, false⟩] => K v (.panicking [⟨v, true, false⟩])
  | _ => False
theorem recX_ok {u : FrameMode} {K : Value → FrameMode → Prop} (h : recX u K) : ∃ v u', K v u' ∧ ∀ (c : Frame) (cs : List Frame), c.mode = u →
    (recoverD (c :: cs) = some (v, { c with mode := u' } :: cs)) ∨ (recoverD (c :: cs) = none ∧ v = .nilIface ∧ u' = u) := by
  unfold recX at h
  split at h
  · refine ⟨_, _, h, fun c cs hc => .inr ⟨?_, rfl, rfl⟩⟩
    simp [recoverD, hc]
  · refine ⟨_, _, h, fun c cs hc => .inl ?_⟩
    simp [recoverD, hc]
  · exact h.elim
theorem wpOpsS_of {ops : Array Oper} {cs : List Frame} {Q : Exit → Act → List Frame → World → Prop} (hQ : ∀ a w, ¬ Q .outgrown a cs w) :
    ∀ (l : List Nat) (a : Act) (w : World), wpOps P ops (fun e a w => Q e a cs w) l a w → wpOpsS P ops Q l a cs w
  | [], a, w, h => h
  | i :: l, a, w, h => by
    simp only [wpOps] at h
    simp only [wpOpsS]
    cases ho : ops[i]? with
    | none => simp only [ho] at h ⊢; exact wpOpsS_of hQ l a w h
    | some o =>
      simp only [ho] at h ⊢
      by_cases hw : Region.wanted o (yielded ops a.tmps) = true
      · rw [if_pos hw] at h ⊢
        rcases h with h | ⟨_, a0, w1, h0⟩
        · unfold Oper.wp at h
          split
          · rename_i w' hr
            rw [hr] at h
            exact h.elim
          · exact upon_mono (fun a w => wpOpsS_of hQ l a w) (fun e a w h => h) h
        · exact (hQ _ _ h0).elim
      · rw [if_neg hw] at h ⊢
        exact wpOpsS_of hQ l _ w h
/-- What is asked where a deferred function ends. -/
def dK (P : Program) (T : Tab) (e : Nat) (rs : List ResultVar) (K : Hp → List SB → Prop) : KT
  | .normal, F, H, G => resX P T rs F H G fun _ => trimX e (.tu []) G fun G' => K H G'
  | .ret, F, H, G => resX P T rs F H G fun _ => trimX e (.tu []) G fun G' => K H G'
  | _, _, _, _ => False
def opsK (A : Fr → Hp → List SB → Prop) : KT
  | .normal, F, H, G => A F H G
  | _, _, _, _ => False
theorem trim_ok {w0 : World} {M : Nat → Prop} {H0 : Hp} {ρ ρ' : List Value} {H' : Hp} {G' : List SB} {w' : World} {e : Nat} {v : SV} {K : List SB → Prop} (hl : ρ.length = e) (h1 : St w0 M H0 ρ' H' G' w') (hp : PreE e ρ ρ') (h : trimX e v G' K) :
    ∃ ρ2 G2, St w0 M H0 ρ2 H' G2 w' ∧ Pre ρ ρ2 ∧ K G2 := by
  unfold trimX at h
  split at h
  · rename_i hw
    simp only [Bool.and_eq_true] at hw
    obtain ⟨hw1, hw2, hw3⟩ := hw
    refine ⟨ρ'.take e, G'.take e, h1.cut _ hw2, fun k r hk => ?_, h⟩
    have hk' : k < e := by rw [← hl]; exact (List.getElem?_eq_some_iff.1 hk).1
    rw [List.getElem?_take_of_lt hk']
    exact hp k r hk' hk
  · exact ⟨ρ', G', h1, fun k r hk => hp k r (by rw [← hl]; exact (List.getElem?_eq_some_iff.1 hk).1) hk, h⟩
/-- **A deferred call that recovers**, out of the walk of its body: its first operation is 'recover()'. -/
theorem CallDO.of_body {T : Tab} (hT : TabOk P T) {f : FuncId} {fn : Func} {id : Nat} {ops : Array Oper} {rest : Code} (hf : P.funcs[f]? = some fn) (hb : fn.body = some (.seq (.region id ops false) rest))
    {o0 : Oper} {os : List Oper} (hops : ops.toList = o0 :: os) {ts : Array TypeId} (ho : o0.op = .call ⟨.builtin .recover, #[], ts⟩) (hg : o0.guard = none) {svs : List SV} {nt : Nat} (hn : fn.ntmps = nt) (hl : Nat.ble svs.length nt = true)
    {u : FrameMode} {H : Hp} {G : List SB} {K : FrameMode → Hp → List SB → Prop}
    (h : recX u fun v u' => putX nt [] o0.dst (startF 0 svs) (pv v) fun F' => opsX P T nt [] ops.toList (fun _ _ _ => False) 1 os F' H G fun F2 H2 G2 => codeX P T nt G.length .none rest (dK P T G.length fn.results.toList (K u')) F2 H2 G2) :
    CallDO P f svs u H G K := by
  intro w0 M hgd H0 ρ w vs hs hv
  refine callsD_of_wpS hf hb fun c₀ cs hc₀ => ?_
  obtain ⟨v, u', h, hrec⟩ := recX_ok h
  obtain ⟨F', h, _, hput⟩ := putX_ok h
  have hvl := hv.length
  have hle : svs.length ≤ nt := by simpa using hl
  have hsize : (vs.toArray ++ Array.replicate (fn.ntmps - vs.toArray.size) undef).size = nt := by simp; omega
  generalize hact : (⟨vs.toArray ++ Array.replicate (fn.ntmps - vs.toArray.size) undef, []⟩ : Act) = a0
  have hf0 : FOk ρ (startF 0 svs) a0.tmps := by
    intro i sv hm
    obtain ⟨k, rfl, hk⟩ := startF_mem hm
    obtain ⟨v, h1, h2⟩ := hv.get hk
    refine ⟨v, ?_, h2⟩
    have hkl := (List.getElem?_eq_some_iff.1 h1).1
    rw [← hact, Nat.zero_add, Array.getElem?_append_left (by simpa using hkl)]
    simpa using h1
  have hsz : a0.tmps.size = nt := by rw [← hact]; exact hsize
  have hde : a0.defers = [] := by rw [← hact]
  have ho' : ops[0]? = some o0 := by
    have : ops.toList[0]? = some o0 := by rw [hops]; rfl
    simpa using this
  have hi : 0 < ops.size := (Array.getElem?_eq_some_iff.1 ho').1
  have hlr : List.range ops.size = 0 :: (List.range ops.size).drop 1 := by
    have : (List.range ops.size).drop 0 = 0 :: (List.range ops.size).drop 1 := by
      rw [List.drop_eq_getElem_cons (by simpa using hi)]; simp
    simpa using this
  let Q0 := bodyPostS P fn c₀ cs (fun e u' w' => match e with
      | .returned _ => ∃ ρ' H' G', St w0 M H0 ρ' H' G' w' ∧ Pre ρ ρ' ∧ H.Le H' ∧ K u' H' G'
      | _ => False)
  -- behind 'recover()'
  have next : ∀ w, St w0 M H0 ρ H G w → wpOpsS P ops (Exit.thenS (rest.wpS P Q0) Q0) ((List.range ops.size).drop 1) (a0.put o0.dst v) ({ c₀ with mode := u' } :: cs) w := by
    intro w hs
    have hout : ∀ a w, ¬ (Exit.thenS (rest.wpS P Q0) Q0) .outgrown a ({ c₀ with mode := u' } :: cs) w := by
      rintro a w ⟨_, h⟩; exact h
    refine wpOpsS_of hout _ _ _ ?_
    have hx := opsX_gen (D := .none) (Q := fun e a w => (Exit.thenS (rest.wpS P Q0) Q0) e a ({ c₀ with mode := u' } :: cs) w) (w0 := w0) (M := M) (H0 := H0) hT hgd os 1 F' H G [] (fun j => by
        have : ops.toList[1 + j]? = os[j]? := by rw [hops, show 1 + j = j + 1 by omega]; simp
        simpa using this.symm) h ρ (a0.put o0.dst v) w hs (hput ρ a0 v hsz hf0 rfl) (Pin.on_none.2 (by rw [put_defers]; exact hde)) (by rw [put_size]; exact hsz) ?_ ?_
    · exact hx
    · intro F2 H2 G2 ρ2 a2 w2 b1 b2 b3 b4 b5 b6 b7
      have hol : ops.size = 1 + os.length := by have := congrArg List.length hops; simp at this; omega
      rw [List.drop_of_length_le (by simp; omega)]
      show rest.wpS P Q0 a2 ({ c₀ with mode := u' } :: cs) w2
      refine wpS_of_wp (wp_mono (codeX_ok hT _ b7 w0 M hgd H0 ρ2 a2 w2 b1 b3 b4 b5) fun e a w' he => ?_)
      have fin : (Pin.none.On a ∧ a.tmps.size = nt ∧ ∃ F' ρ' H' G', St w0 M H0 ρ' H' G' w' ∧ PreE G.length ρ2 ρ' ∧ FOk ρ' F' a.tmps ∧ H2.Le H' ∧ resX P T fn.results.toList F' H' G' fun _ => trimX G.length (.tu []) G' fun G3 => K u' H' G3) →
          a.defers = [] ∧ ∃ u2, ({ c₀ with mode := u' } :: cs : List Frame) = { c₀ with mode := u2 } :: cs ∧ ∃ v, (results fn a.tmps).run P w' = .ok v w' ∧ ∃ ρ' H' G', St w0 M H0 ρ' H' G' w' ∧ Pre ρ ρ' ∧ H.Le H' ∧ K u2 H' G' := by
        rintro ⟨hd, _, F3, ρ', H', G', h1, hq, h2, h3, h4⟩
        obtain ⟨l, h4, hl⟩ := resX_ok hT h4
        obtain ⟨ys, h5, h6⟩ := hl ρ' a w' h1.sw h2
        obtain ⟨ρ3, G3, c1, c2, c3⟩ := trim_ok hs.len h1 (b2.toE.trans hq) h4
        exact ⟨Pin.on_none.1 hd, u', rfl, _, run_results h5, ρ3, H', G3, c1, c2, b6.trans h3, c3⟩
      cases e with
      | normal => exact fin he
      | ret => exact fin he
      | panic ch => obtain ⟨_, _, _, _, _, _, _, h5⟩ := he; exact h5.elim
      | outgrown => exact he.elim
      | exit id => obtain ⟨_, _, _, _, _, _, _, _, _, _, h5⟩ := he; exact h5.elim
      | goto l => obtain ⟨_, _, _, _, _, _, _, _, _, _, h5⟩ := he; exact h5.elim
    · intro ch ρ' H' G' a' w' _ _ _ _ hk
      exact hk.elim
  refine wpS_seq (wpS_region ?_)
  rw [hlr]
  have hwant : Region.wanted o0 (yielded ops a0.tmps) = true := by unfold Region.wanted; rw [hg]
  have hrun : (execOp a0.eval o0).run P w = .ok .recover w := by
    simp [execOp, ho, resolve, invoke, builtin]
  simp only [wpOpsS, ho', hwant, if_true, hrun]
  rcases hrec c₀ cs hc₀ with e1 | ⟨e1, rfl, rfl⟩
  · rw [e1]; exact next w hs
  · rw [e1]
    have : ({ c₀ with mode := u' } : Frame) = c₀ := by rw [← hc₀]
    rw [← this]; exact next w hs

/-! ### A function that defers one call -/
def pinF : List Nat → Fr → (Fr → Prop) → Prop
  | [], _, K => K []
  | i :: r, F, K => getX F i fun sv => pinF r F fun F' => K ((i, sv) :: F')
theorem pinF_ok {F : Fr} : ∀ {ps : List Nat} {K : Fr → Prop}, pinF ps F K → ∃ F', K F' ∧ ∀ i sv, (i, sv) ∈ F' → i ∈ ps ∧ (i, sv) ∈ F
  | [], K, h => ⟨[], h, fun i sv hm => by simp at hm⟩
  | i :: r, K, h => by
    obtain ⟨sv, h1, h⟩ := getX_ok h
    obtain ⟨F', h, h2⟩ := pinF_ok h
    refine ⟨_, h, fun j sv' hm => ?_⟩
    rcases List.mem_cons.1 hm with hm | hm
    · injection hm with e1 e2; subst e1 e2; exact ⟨List.mem_cons_self, h1⟩
    · exact ⟨List.mem_cons_of_mem _ (h2 j sv' hm).1, (h2 j sv' hm).2⟩
/-- A mode behind a deferred call that has returned: the function returns. -/
def backX (u : FrameMode) (K : Prop) : Prop :=
  match settle u with
  | .returning => K
  | _ => False
theorem backX_ok {u : FrameMode} {K : Prop} (h : backX u K) : settle u = .returning ∧ K := by
  unfold backX at h
  split at h
  · exact ⟨by assumption, h⟩
  · exact h.elim
/-- The same, one word. -/
structure CallDS (P : Program) (f : FuncId) (svs : List SV) (u : FrameMode) (H : Hp) (G : List SB) (K : FrameMode → Hp → List SB → Prop) : Prop where of ::
  to : CallDO P f svs u H G K
/-- What is asked where a function that has deferred a call ends: the call (g, svs); Fp: the slots that stay. -/
def defK (P : Program) (T : Tab) (e : Nat) (rs : List ResultVar) (g : FuncId) (svs : List SV) (Fp : Fr) (K : SE → Hp → List SB → Prop) : KT
  | .normal, F, H, G => CallDS P g svs .returning H G fun u' H' G' => backX u' (resX P T rs F H' G' fun l => endK.one l (fun v => trimX e v G' fun G2 => K (.ret v) H' G2))
  | .ret, F, H, G => CallDS P g svs .returning H G fun u' H' G' => backX u' (resX P T rs F H' G' fun l => endK.one l (fun v => trimX e v G' fun G2 => K (.ret v) H' G2))
  | .panic ch, _, H, G => CallDS P g svs (.panicking ch) H G fun u' H' G' => backX u' (resX P T rs Fp H' G' fun l => endK.one l (fun v => trimX e v G' fun G2 => K (.ret v) H' G2))
  | _, _, _, _ => False


theorem Pre.of_E {e : Nat} {ρ ρ' : List Value} (hl : ρ.length = e) (h : PreE e ρ ρ') : Pre ρ ρ' := fun k r hk => h k r (by rw [← hl]; exact (List.getElem?_eq_some_iff.1 hk).1) hk
theorem all2_mono {ρ ρ' : List Value} (h : Pre ρ ρ') {svs : List SV} {vs : List Value} (ha : All2 (SV.Is ρ) svs vs) : All2 (SV.Is ρ') svs vs := ha.mono fun _ _ => SV.Is.mono h
def glen (G : List SB) (K : Nat → Prop) : Prop := appG G .dead fun _ n => K n
/-- **A function that defers one call**, out of the walk of its body. -/
theorem CallO.of_bodyD {T : Tab} (hT : TabOk P T) {f : FuncId} {fn : Func} {A rest : Code} {id : Nat} {ops : Array Oper} (hf : P.funcs[f]? = some fn) (hb : fn.body = some (.seq A (.seq (.region id ops false) rest)))
    {pre : List Oper} {od : Oper} (hops : ops.toList = pre ++ [od]) {fx : Operand} {ts : Array TypeId} (hod : od.op = .defer ⟨.value fx, #[], ts⟩) (hg : od.guard = none) {svs : List SV} {nt : Nat} (hn : fn.ntmps = nt) (hl : Nat.ble svs.length nt = true)
    {H : Hp} {G : List SB} {K : SE → Hp → List SB → Prop} (ps : List Nat)
    (h : codeX P T nt G.length .none A (opsK fun F H1 G1 => opsX P T nt [] ops.toList (fun _ _ _ => False) 0 pre F H1 G1 fun F1 H2 G2 => evX fx F1 fun sv => calleeX sv fun g s1 s2 => Bodied P g ∧
      putX nt [] od.dst F1 (pv undef) fun F2 => pinF ps F2 fun Fp => glen G2 fun e' => ∀ ds vs, codeX P T nt e' ⟨ds, ps, vs⟩ rest (defK P T G.length fn.results.toList g (s1 ++ s2) Fp K) F2 H2 G2) (startF 0 svs) H G) : CallO P f svs H G K := by
  intro w0 M hgd H0 ρ w vs hs hv
  refine (calls_of_wp_defers (R := fun e w' => match e with
      | .returned v => ∃ sv ρ' H' G', St w0 M H0 ρ' H' G' w' ∧ Pre ρ ρ' ∧ sv.Is ρ' v ∧ H.Le H' ∧ K (.ret sv) H' G'
      | .panicked ch => ∃ ρ' H' G', St w0 M H0 ρ' H' G' w' ∧ Pre ρ ρ' ∧ H.Le H' ∧ K (.pan ch) H' G'
      | .outgrown => False) hf hb ?_)
  have hvl := hv.length
  have hle : svs.length ≤ nt := by simpa using hl
  have hsize : (vs.toArray ++ Array.replicate (fn.ntmps - vs.toArray.size) undef).size = nt := by simp; omega
  generalize hact : (⟨vs.toArray ++ Array.replicate (fn.ntmps - vs.toArray.size) undef, []⟩ : Act) = a0
  have hf0 : FOk ρ (startF 0 svs) a0.tmps := by
    intro i sv hm
    obtain ⟨k, rfl, hk⟩ := startF_mem hm
    obtain ⟨v, h1, h2⟩ := hv.get hk
    refine ⟨v, ?_, h2⟩
    have hkl := (List.getElem?_eq_some_iff.1 h1).1
    rw [← hact, Nat.zero_add, Array.getElem?_append_left (by simpa using hkl)]
    simpa using h1
  have hsz : a0.tmps.size = nt := by rw [← hact]; exact hsize
  have hde : a0.defers = [] := by rw [← hact]
  refine wp_seq (wp_mono (codeX_ok hT _ h w0 M hgd H0 ρ a0 w hs hf0 (Pin.on_none.2 hde) hsz) fun e a1 w1 he => ?_)
  cases e with
  | panic ch => obtain ⟨_, _, _, _, _, _, _, h5⟩ := he; exact h5.elim
  | outgrown => exact he.elim
  | exit id => obtain ⟨_, _, _, _, _, _, _, _, _, _, h5⟩ := he; exact h5.elim
  | goto l => obtain ⟨_, _, _, _, _, _, _, _, _, _, h5⟩ := he; exact h5.elim
  | ret => obtain ⟨_, _, _, _, _, _, _, _, _, _, h5⟩ := he; exact h5.elim
  | normal =>
    obtain ⟨hd1, hn1, F1, ρ1, H1, G1, hs1, hp1, hf1, hle1, h⟩ := he
    have hp1 := Pre.of_E hs.len hp1
    refine wp_seq (wp_region ?_)
    have hx := opsX_gen (D := .none) (n := nt) (ops := ops) (Kp := fun _ _ _ => False) (Q := Exit.then (rest.wp P (bodyPostD P fn (fun e w' => match e with
      | .returned v => ∃ sv ρ' H' G', St w0 M H0 ρ' H' G' w' ∧ Pre ρ ρ' ∧ sv.Is ρ' v ∧ H.Le H' ∧ K (.ret sv) H' G'
      | .panicked ch => ∃ ρ' H' G', St w0 M H0 ρ' H' G' w' ∧ Pre ρ ρ' ∧ H.Le H' ∧ K (.pan ch) H' G'
      | .outgrown => False))) (bodyPostD P fn (fun e w' => match e with
      | .returned v => ∃ sv ρ' H' G', St w0 M H0 ρ' H' G' w' ∧ Pre ρ ρ' ∧ sv.Is ρ' v ∧ H.Le H' ∧ K (.ret sv) H' G'
      | .panicked ch => ∃ ρ' H' G', St w0 M H0 ρ' H' G' w' ∧ Pre ρ ρ' ∧ H.Le H' ∧ K (.pan ch) H' G'
      | .outgrown => False))) (w0 := w0) (M := M) (H0 := H0) hT hgd pre 0 F1 H1 G1 [od] (fun j => by
        have : ops.toList[j]? = (pre ++ [od])[j]? := by rw [hops]
        simpa using this.symm) h ρ1 a1 w1 hs1 hf1 hd1 hn1 ?_ (fun ch ρ' H' G' a' w' _ _ _ _ hk => hk.elim)
    · simpa using hx
    · intro F2 H2 G2 ρ2 a2 w2 hs2 hp2 hf2 hd2 hn2 hle2 h
      obtain ⟨sv, h, hsv⟩ := evX_ok h
      obtain ⟨g, s1, s2, ⟨hbod, h⟩, hc⟩ := calleeX_ok h
      obtain ⟨F3, h, _, hput⟩ := putX_ok h
      obtain ⟨Fp, h, hpin⟩ := pinF_ok h
      have h := appG_ok h
      obtain ⟨x, y, e1, hx, hy⟩ := hc ρ2 _ (hsv ρ2 a2 hf2)
      have hl1 : ops.size = pre.length + 1 := by have := congrArg List.length hops; simpa using this
      have hlr : (List.range ops.size).drop (0 + pre.length) = [pre.length] := by
        rw [Nat.zero_add, hl1, List.range_succ, List.drop_append_of_le_length (by simp), List.drop_of_length_le (by simp)]; rfl
      have ho' : ops[pre.length]? = some od := by
        have : ops.toList[pre.length]? = some od := by rw [hops]; simp
        simpa using this
      have hwant : Region.wanted od (yielded ops a2.tmps) = true := by unfold Region.wanted; rw [hg]
      have hrun : (execOp a2.eval od).run P w2 = .ok (.defer { target := .fn (.func g) y.toArray, args := x.toArray }) w2 := by
        simp only [execOp, hod, resolve, e1, Deferred.ofValue]
        simp
      rw [hlr]
      simp only [wpOps, ho', hwant, if_true, Oper.wp, hrun, Oper.upon_defer]
      left
      generalize hds : ({ target := .fn (.func g) y.toArray, args := x.toArray } : Deferred) = d0
      have hf3 : FOk ρ2 F3 (({ a2 with defers := d0 :: a2.defers } : Act).put od.dst undef).tmps := hput ρ2 { a2 with defers := d0 :: a2.defers } undef hn2 hf2 rfl
      generalize ha3 : (({ a2 with defers := d0 :: a2.defers } : Act).put od.dst undef) = a3 at hf3
      have hn3 : a3.tmps.size = nt := by rw [← ha3, put_size]; exact hn2
      have hd3 : a3.defers = [d0] := by rw [← ha3, put_defers]; show d0 :: a2.defers = _; rw [Pin.on_none.1 hd2]
      show rest.wp P _ a3 w2
      have hpre := hp1.trans hp2
      refine wp_mono (codeX_ok hT _ (h [d0] (fun i => a3.tmps[i]?)) w0 M hgd H0 ρ2 a3 w2 hs2 hf3 ⟨hd3, fun i _ => rfl⟩ hn3) fun e a4 w4 he => ?_
      have fin : ∀ (u : FrameMode) (F4 : Fr) (ρ4 : List Value) (H4 : Hp) (G4 : List SB), u ≠ .run → a4.defers = [d0] → St w0 M H0 ρ4 H4 G4 w4 → Pre ρ2 ρ4 → FOk ρ4 F4 a4.tmps → H2.Le H4 →
          CallDS P g (s1 ++ s2) u H4 G4 (fun u' H' G' => backX u' (resX P T fn.results.toList F4 H' G' fun l => endK.one l (fun v => trimX G.length v G' fun G2 => K (.ret v) H' G2))) →
          Leaves P fn a4.tmps (fun e w' => match e with
            | .returned v => ∃ sv ρ' H' G', St w0 M H0 ρ' H' G' w' ∧ Pre ρ ρ' ∧ sv.Is ρ' v ∧ H.Le H' ∧ K (.ret sv) H' G'
            | .panicked ch => ∃ ρ' H' G', St w0 M H0 ρ' H' G' w' ∧ Pre ρ ρ' ∧ H.Le H' ∧ K (.pan ch) H' G'
            | .outgrown => False) a4.defers u w4 := by
        intro u F4 ρ4 H4 G4 hu hd4 hs4 hp4 hf4 hle4 hc
        rw [hd4, ← hds]
        have hinv : (invoke (.fn (.func g) y.toArray) x.toArray).run P w4 = .ok (.enter g (x ++ y).toArray) w4 := by
          simp only [invoke, run_callFunc hbod]; simp
        refine leaves_cons hu hinv (CallsD.mono (hc.to w0 M hgd H0 ρ4 w4 (x ++ y) hs4 (all2_mono hp4 (hx.append hy))) fun e u' w' he => ?_)
        cases e with
        | returned v =>
          obtain ⟨ρ5, H5, G5, hs5, hp5, hle5, h⟩ := he
          obtain ⟨hset, h⟩ := backX_ok h
          obtain ⟨l, h, hl⟩ := resX_ok hT h
          obtain ⟨sv, h, hsv⟩ := one_ok h
          obtain ⟨ys, h5, h6⟩ := hl ρ5 a4 w' hs5.sw (hf4.mono hp5)
          show Leaves P fn a4.tmps _ [] (settle u') w'
          rw [hset]
          refine ⟨_, run_results h5, ?_⟩
          have hpp : Pre ρ ρ5 := (hpre.trans hp4).trans hp5
          have hhh : H.Le H5 := ((hle1.trans hle2).trans hle4).trans hle5
          unfold trimX at h
          split at h
          · rename_i hw
            simp only [Bool.and_eq_true] at hw
            obtain ⟨hw1, hw2, hw3⟩ := hw
            refine ⟨sv, ρ5.take G.length, H5, G5.take G.length, hs5.cut _ hw2, fun k r hk => ?_, (hsv ρ5 ys h6).cut hw1, hhh, h⟩
            rw [List.getElem?_take_of_lt (by rw [← hs.len]; exact (List.getElem?_eq_some_iff.1 hk).1)]
            exact hpp k r hk
          · exact ⟨sv, ρ5, H5, G5, hs5, hpp, hsv ρ5 ys h6, hhh, h⟩
        | panicked ch => exact he.elim
        | outgrown => exact he.elim
      cases e with
      | normal => obtain ⟨b1, b2, F4, ρ4, H4, G4, b3, b4, b5, b6, b7⟩ := he; exact fin .returning F4 ρ4 H4 G4 (by simp) b1.1 b3 (Pre.of_E hs2.len b4) b5 b6 b7
      | ret => obtain ⟨b1, b2, F4, ρ4, H4, G4, b3, b4, b5, b6, b7⟩ := he; exact fin .returning F4 ρ4 H4 G4 (by simp) b1.1 b3 (Pre.of_E hs2.len b4) b5 b6 b7
      | panic ch =>
        obtain ⟨b1, ρ4, H4, G4, b3, b4, b6, b7⟩ := he
        refine fin (.panicking ch) Fp ρ4 H4 G4 (by simp) b1.1 b3 (Pre.of_E hs2.len b4) (fun i sv hi => ?_) b6 b7
        obtain ⟨q1, q2⟩ := hpin i sv hi
        obtain ⟨v, q3, q4⟩ := hf3 i sv q2
        refine ⟨v, ?_, q4.mono (Pre.of_E hs2.len b4)⟩
        rw [b1.2 i q1]; exact q3
      | outgrown => exact he.elim
      | exit id => obtain ⟨_, _, _, _, _, _, _, _, _, _, h5⟩ := he; exact h5.elim
      | goto l => obtain ⟨_, _, _, _, _, _, _, _, _, _, h5⟩ := he; exact h5.elim
end
end Go.Kx
