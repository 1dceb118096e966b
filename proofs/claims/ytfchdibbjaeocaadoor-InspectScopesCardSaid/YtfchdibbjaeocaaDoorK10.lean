/- Loud operations of a symbolic walk: new boxes, stores, calls, new rows. Generic in the program; no condition of its own. -/
import Derived.Test.YtfchdibbjaeocaaDoorK9
namespace Go.Kx
open Go.RowKit

/-! ### What an operation comes to -/
def Out (P : Program) (R : Value → World → Prop) (Pn : List PanicEntry → World → Prop) : Result Next → Prop
  | .ok (.value v) w' => R v w'
  | .ok .skip w' => R undef w'
  | .ok (.enter f args) w' => Calls P f args w' fun e w'' => match e with
    | .returned v => R v w''
    | .panicked ch => Pn ch w''
    | .outgrown => False
  | .ok (.row row args) w' => Rows P row args w' R
  | .halt (.panic v) w' => Pn [{ v, recovered := false }] w'
  | _ => False
theorem Out.mono {P : Program} {R R' : Value → World → Prop} {Pn Pn' : List PanicEntry → World → Prop} {r : Result Next} (h : Out P R Pn r) (hR : ∀ v w, R v w → R' v w) (hP : ∀ c w, Pn c w → Pn' c w) : Out P R' Pn' r := by
  unfold Out at *
  split <;> simp_all
  · rename_i f args w'
    refine h.mono fun e w'' he => ?_
    cases e with
    | returned v => exact hR _ _ he
    | panicked ch => exact hP _ _ he
    | outgrown => exact he
  · exact h.mono fun v w'' he => hR _ _ he
theorem upon_of_out {P : Program} {o : Oper} {a : Act} {next : Act → World → Prop} {Q : Exit → Act → World → Prop} {R : Value → World → Prop} {Pn : List PanicEntry → World → Prop} {r : Result Next} (h : Out P R Pn r)
    (hn : ∀ v w', R v w' → next (a.put o.dst v) w') (hp : ∀ ch w', Pn ch w' → Q (.panic ch) a w') : o.upon P a next Q r := by
  unfold Out at h
  split at h
  · exact hn _ _ h
  · exact hn _ _ h
  · refine Calls.mono h fun e w'' he => ?_
    cases e with
    | returned v => exact hn _ _ he
    | panicked ch => exact hp _ _ he
    | outgrown => exact he.elim
  · exact Rows.mono h fun v w'' he => hn _ _ he
  · exact hp _ _ h
  · exact h.elim

/-- What an operation comes to, in whatever world its state is. -/
def LO (P : Program) (o : Oper) (F : Fr) (H : Hp) (G : List SB) (K : SV → Hp → List SB → Prop) (Kp : List PanicEntry → Hp → List SB → Prop) : Prop :=
  ∀ (w0 : World) (M : Nat → Prop) (_ : Gd w0 M) (H0 : Hp) (ρ : List Value) (a : Act) (w : World), St w0 M H0 ρ H G w → FOk ρ F a.tmps →
    Out P (fun v w' => ∃ sv ρ' H' G', St w0 M H0 ρ' H' G' w' ∧ Pre ρ ρ' ∧ sv.Is ρ' v ∧ H.Le H' ∧ K sv H' G')
      (fun ch w' => ∃ ρ' H' G', St w0 M H0 ρ' H' G' w' ∧ Pre ρ ρ' ∧ H.Le H' ∧ Kp ch H' G') ((execOp a.eval o).run P w)
theorem LO.of_quiet {P : Program} {o : Oper} {F : Fr} {H : Hp} {G : List SB} {K : SV → Hp → List SB → Prop} {Kp : List PanicEntry → Hp → List SB → Prop} (h : QO P o F H G fun sv => K sv H G) : LO P o F H G K Kp := by
  intro w0 M hgd H0 ρ a w hs hf
  obtain ⟨sv, hk, hq⟩ := h
  obtain ⟨v, h1, h2⟩ := hq ρ a w hf hs.sw
  rw [h2 w hs.sw]
  exact ⟨sv, ρ, H, G, hs, .refl _, h1, .refl _, hk⟩

/-! ### New blocks, turned blocks -/
section
variable {w0 : World} {M : Nat → Prop} {H0 : Hp} {ρ : List Value} {H : Hp} {G : List SB} {w : World}
theorem heap_push_old {w : World} {o : Obj} {k : Nat} (hk : k < w.heap.size) : (w.heap.push o)[k]? = w.heap[k]? := by
  rw [Array.getElem?_push]; simp [Nat.ne_of_lt hk]
theorem heap_push_new {w : World} {o : Obj} : (w.heap.push o)[w.heap.size]? = some o := by simp
theorem Hp.In.lt (h : H.In w) {b o : Nat} {v : Value} (e : H b o = some v) : b < w.heap.size := block_of_cell (h b o v e)
/-- One block more, one's own. -/
theorem St.new (h : St w0 M H0 ρ H G w) {s : SB} {r : Value} {o : Obj} (hok : s.Ok (ρ ++ [r]) { w with heap := w.heap.push o } r) (hb : s.blk r = some w.heap.size) : St w0 M H0 (ρ ++ [r]) H (G ++ [s]) { w with heap := w.heap.push o } where
  os := h.os
  tape := h.tape
  output := h.output
  size := by show w0.heap.size ≤ (w.heap.push o).size; have := h.size; simp; omega
  old := fun b hb hM => by rw [← h.old b hb hM]; exact heap_push_old (Nat.lt_of_lt_of_le hb h.size)
  hle := h.hle
  hin := fun b o' v e => by
    have hlt := h.hin.lt e
    rw [← h.hin b o' v e]
    exact cell_of_block (heap_push_old hlt)
  hnew := h.hnew
  len := by simp [h.len]
  ok := fun k s' r' h1 h2 => by
    rcases Nat.lt_or_ge k G.length with hk | hk
    · rw [List.getElem?_append_left hk] at h1
      rw [List.getElem?_append_left (by rw [h.len]; exact hk)] at h2
      refine ((h.ok k s' r' h1 h2).move fun g hg => ?_).mono (Pre.append _ _)
      exact heap_push_old ((h.ok k s' r' h1 h2).lt hg)
    · have hkl := (List.getElem?_eq_some_iff.1 h1).1
      simp at hkl
      obtain rfl : k = G.length := by omega
      rw [List.getElem?_append_right (Nat.le_refl _)] at h1
      rw [List.getElem?_append_right (by rw [h.len]; exact Nat.le_refl _)] at h2
      simp at h1
      simp [h.len] at h2
      subst h1 h2
      exact hok
  own := fun k g hg => by
    obtain ⟨s', r', h1, h2, h3⟩ := blkAt_some hg
    rcases Nat.lt_or_ge k G.length with hk | hk
    · rw [List.getElem?_append_left hk] at h1
      rw [List.getElem?_append_left (by rw [h.len]; exact hk)] at h2
      exact h.own k g (by rw [blkAt_eq h1 h2]; exact h3)
    · have hkl := (List.getElem?_eq_some_iff.1 h1).1
      simp at hkl
      obtain rfl : k = G.length := by omega
      rw [List.getElem?_append_right (Nat.le_refl _)] at h1
      rw [List.getElem?_append_right (by rw [h.len]; exact Nat.le_refl _)] at h2
      simp at h1
      simp [h.len] at h2
      subst h1 h2
      rw [hb] at h3; injection h3 with h3; subst h3
      refine ⟨.inl h.size, fun o' => ?_⟩
      cases e : H w.heap.size o' with
      | none => rfl
      | some v => exact absurd (h.hin.lt e) (Nat.lt_irrefl _)
  inj := fun i j g hi hj => by
    have key : ∀ k, blkAt (ρ ++ [r]) (G ++ [s]) k = some g → (k < G.length ∧ blkAt ρ G k = some g ∧ g < w.heap.size) ∨ (k = G.length ∧ g = w.heap.size) := fun k hg => by
      obtain ⟨s', r', h1, h2, h3⟩ := blkAt_some hg
      rcases Nat.lt_or_ge k G.length with hk | hk
      · rw [List.getElem?_append_left hk] at h1
        rw [List.getElem?_append_left (by rw [h.len]; exact hk)] at h2
        exact .inl ⟨hk, by rw [blkAt_eq h1 h2]; exact h3, (h.ok k s' r' h1 h2).lt h3⟩
      · have hkl := (List.getElem?_eq_some_iff.1 h1).1
        simp at hkl
        obtain rfl : k = G.length := by omega
        rw [List.getElem?_append_right (Nat.le_refl _)] at h1
        rw [List.getElem?_append_right (by rw [h.len]; exact Nat.le_refl _)] at h2
        simp at h1
        simp [h.len] at h2
        subst h1 h2
        rw [hb] at h3; injection h3 with h3
        exact .inr ⟨rfl, h3.symm⟩
    rcases key i hi with ⟨_, a1, a2⟩ | ⟨a1, a2⟩ <;> rcases key j hj with ⟨_, b1, b2⟩ | ⟨b1, b2⟩
    · exact h.inj i j g a1 b1
    · omega
    · omega
    · omega
/-- One's own block k is turned: only its object. -/
theorem St.turn (h : St w0 M H0 ρ H G w) {k : Nat} {s s' : SB} {r : Value} (hk : G[k]? = some s) (hr : ρ[k]? = some r) {g : Nat} (hg : s.blk r = some g) {w' : World}
    (e1 : w'.os = w.os) (e2 : w'.tape = w.tape) (e3 : w'.output = w.output) (e4 : w.heap.size ≤ w'.heap.size) (e5 : ∀ b, b < w.heap.size → b ≠ g → w'.heap[b]? = w.heap[b]?)
    (hok : s'.Ok ρ w' r) (hb : s'.blk r = some g ∨ s'.blk r = none) : St w0 M H0 ρ H (G.set k s') w' := by
  have hgk : blkAt ρ G k = some g := by rw [blkAt_eq hk hr]; exact hg
  have hkl := (List.getElem?_eq_some_iff.1 hk).1
  have hstay : ∀ b o v, H b o = some v → w'.cell? ⟨b, o, none⟩ = w.cell? ⟨b, o, none⟩ := fun b o v e => cell_of_block (e5 b (h.hin.lt e) fun eb => by
    subst eb
    rw [(h.own k b hgk).2 o] at e; cases e)
  have key : ∀ j x, blkAt ρ (G.set k s') j = some x → blkAt ρ G j = some x := fun j x hx => by
    obtain ⟨s1, r1, h1, h2, h3⟩ := blkAt_some hx
    by_cases hjk : k = j
    · subst hjk
      rw [List.getElem?_set_self hkl] at h1
      injection h1 with h1; subst h1
      rw [hr] at h2; injection h2 with h2; subst h2
      rcases hb with hb | hb <;> rw [hb] at h3
      · injection h3 with h3; subst h3; exact hgk
      · cases h3
    · rw [List.getElem?_set_ne hjk] at h1
      rw [blkAt_eq h1 h2]; exact h3
  refine ⟨e1.trans h.os, e2.trans h.tape, e3.trans h.output, Nat.le_trans h.size e4, ?_, h.hle, fun b o v e => (hstay b o v e).trans (h.hin b o v e), h.hnew, by simp [h.len], ?_, fun j x hx => h.own j x (key j x hx), fun i j x hi hj => h.inj i j x (key i x hi) (key j x hj)⟩
  · intro b hb' hM
    rw [← h.old b hb' hM]
    refine e5 b (Nat.lt_of_lt_of_le hb' h.size) fun eb => ?_
    subst eb
    rcases (h.own k b hgk).1 with h1 | h1
    · omega
    · exact hM h1
  · intro j s1 r1 h1 h2
    by_cases hjk : k = j
    · subst hjk
      rw [List.getElem?_set_self hkl] at h1
      injection h1 with h1; subst h1
      rw [hr] at h2; injection h2 with h2; subst h2
      exact hok
    · rw [List.getElem?_set_ne hjk] at h1
      refine (h.ok j s1 r1 h1 h2).move fun x hx => ?_
      refine e5 x ((h.ok j s1 r1 h1 h2).lt hx) fun e => ?_
      subst e
      exact hjk (h.inj k j x hgk (by rw [blkAt_eq h1 h2]; exact hx))
/-- A block of one's own is given away: what it is known to hold is read for good from now on. -/
theorem St.give (h : St w0 M H0 ρ H G w) {k : Nat} {s : SB} {r : Value} (hk : G[k]? = some s) (hr : ρ[k]? = some r) {g : Nat} (hg : s.blk r = some g) {H' : Hp}
    (hH : ∀ b o v, H' b o = some v → H b o = some v ∨ (b = g ∧ w.cell? ⟨g, o, none⟩ = some v)) (hle : H.Le H') {s' : SB} (hs' : s'.Ok ρ w r) (hb : s'.blk r = none) : St w0 M H0 ρ H' (G.set k s') w := by
  have hgk : blkAt ρ G k = some g := by rw [blkAt_eq hk hr]; exact hg
  have hkl := (List.getElem?_eq_some_iff.1 hk).1
  have key : ∀ j x, blkAt ρ (G.set k s') j = some x → blkAt ρ G j = some x ∧ x ≠ g := fun j x hx => by
    obtain ⟨s1, r1, h1, h2, h3⟩ := blkAt_some hx
    by_cases hjk : k = j
    · subst hjk
      rw [List.getElem?_set_self hkl] at h1
      injection h1 with h1; subst h1
      rw [hr] at h2; injection h2 with h2; subst h2
      rw [hb] at h3; cases h3
    · rw [List.getElem?_set_ne hjk] at h1
      have hx' : blkAt ρ G j = some x := by rw [blkAt_eq h1 h2]; exact h3
      exact ⟨hx', fun e => hjk (h.inj k j x (by rw [e]; exact hgk) hx')⟩
  refine ⟨h.os, h.tape, h.output, h.size, h.old, h.hle.trans hle, ?_, ?_, by simp [h.len], ?_, ?_, fun i j x hi hj => h.inj i j x (key i x hi).1 (key j x hj).1⟩
  · intro b o v e
    rcases hH b o v e with e | ⟨rfl, e⟩
    · exact h.hin b o v e
    · exact e
  · intro b o v e
    rcases hH b o v e with e | ⟨rfl, e⟩
    · exact h.hnew b o v e
    · exact .inr (h.own k b hgk).1
  · intro j s1 r1 h1 h2
    by_cases hjk : k = j
    · subst hjk
      rw [List.getElem?_set_self hkl] at h1
      injection h1 with h1; subst h1
      rw [hr] at h2; injection h2 with h2; subst h2
      exact hs'
    · rw [List.getElem?_set_ne hjk] at h1
      exact h.ok j s1 r1 h1 h2
  · intro j x hx
    obtain ⟨hx', hne⟩ := key j x hx
    refine ⟨(h.own j x hx').1, fun o => ?_⟩
    cases e : H' x o with
    | none => rfl
    | some v =>
      rcases hH x o v e with e | ⟨e, _⟩
      · rw [(h.own j x hx').2 o] at e; cases e
      · exact absurd e hne
/-- A new block that is read for good from the start. -/
theorem St.lay (h : St w0 M H0 ρ H G w) {o : Obj} {H' : Hp} (hle : H.Le H') (hH : ∀ b i v, H' b i = some v → H b i = some v ∨ (b = w.heap.size ∧ World.cell? { w with heap := w.heap.push o } ⟨b, i, none⟩ = some v)) : St w0 M H0 ρ H' G { w with heap := w.heap.push o } where
  os := h.os
  tape := h.tape
  output := h.output
  size := by show w0.heap.size ≤ (w.heap.push o).size; have := h.size; simp; omega
  old := fun b hb hM => by rw [← h.old b hb hM]; exact heap_push_old (Nat.lt_of_lt_of_le hb h.size)
  hle := h.hle.trans hle
  hin := fun b i v e => by
    rcases hH b i v e with e | ⟨_, e⟩
    · rw [← h.hin b i v e]; exact cell_of_block (heap_push_old (h.hin.lt e))
    · exact e
  hnew := fun b i v e => by
    rcases hH b i v e with e | ⟨rfl, _⟩
    · exact h.hnew b i v e
    · exact .inr (.inl h.size)
  len := h.len
  ok := fun k s r h1 h2 => (h.ok k s r h1 h2).move fun g hg => heap_push_old ((h.ok k s r h1 h2).lt hg)
  own := fun k g hg => ⟨(h.own k g hg).1, fun i => by
    cases e : H' g i with
    | none => rfl
    | some v =>
      rcases hH g i v e with e | ⟨e, _⟩
      · rw [(h.own k g hg).2 i] at e; cases e
      · have := h.lt hg; omega⟩
  inj := h.inj
end

/-- H with the row ys at block g, from its begin on. -/
def Hp.put (H : Hp) (g : Nat) (ys : List Value) : Hp := fun b o => if b = g then ys[o]? else H b o
theorem Hp.put_le {H : Hp} {g : Nat} {ys : List Value} (hg : H.Out g) : H.Le (H.put g ys) := fun b o v e => by
  unfold Hp.put
  split
  · rename_i hb; subst hb; rw [hg o] at e; cases e
  · exact e
theorem Hp.put_rd {H : Hp} {g : Nat} {ys : List Value} : RdN (H.put g ys) (some ⟨g, 0, none⟩) 0 ys := ⟨g, 0, rfl, fun j x hx => by simp [Hp.put, hx]⟩
theorem Hp.put_inv {H : Hp} {g : Nat} {ys : List Value} {b o : Nat} {v : Value} (e : H.put g ys b o = some v) : H b o = some v ∨ (b = g ∧ ys[o]? = some v) := by
  unfold Hp.put at e
  split at e
  · rename_i hb; exact .inr ⟨hb, e⟩
  · exact .inl e
theorem St.fresh {w0 : World} {M : Nat → Prop} {H0 : Hp} {ρ : List Value} {H : Hp} {G : List SB} {w : World} (h : St w0 M H0 ρ H G w) : H.Out w.heap.size := fun o => by
  cases e : H w.heap.size o with
  | none => rfl
  | some v => exact absurd (h.hin.lt e) (Nat.lt_irrefl _)

/-! ### alloc, box -/
section
variable {P : Program}
def appG : List SB → SB → (List SB → Nat → Prop) → Prop
  | [], s, K => K [s] 0
  | t :: r, s, K => appG r s fun l n => K (t :: l) (n + 1)
theorem appG_ok {G : List SB} {s : SB} {K : List SB → Nat → Prop} (h : appG G s K) : K (G ++ [s]) G.length := by
  induction G generalizing K with
  | nil => exact h
  | cons t r ih => exact ih h
def setG : List SB → Nat → SB → (List SB → Prop) → Prop
  | [], _, _, _ => False
  | _ :: r, 0, s, K => K (s :: r)
  | t :: r, k + 1, s, K => setG r k s fun l => K (t :: l)
theorem setG_ok {G : List SB} {k : Nat} {s : SB} {K : List SB → Prop} (h : setG G k s K) : k < G.length ∧ K (G.set k s) := by
  induction G generalizing k K with
  | nil => exact h.elim
  | cons t r ih =>
    cases k with
    | zero => exact ⟨by simp, h⟩
    | succ k => obtain ⟨h1, h2⟩ := ih h; exact ⟨by simpa using h1, by simpa using h2⟩
def allocX (T : Tab) (t : TypeId) (G : List SB) (K : SV → List SB → Prop) : Prop :=
  tabX T t fun ti => zerosX ti.zero fun cs => appG G (.box t cs) fun G' n => K (.si (.ce (.ptr n 0))) G'
theorem St.box {w0 : World} {M : Nat → Prop} {H0 : Hp} {ρ : List Value} {H : Hp} {G : List SB} {w : World} (h : St w0 M H0 ρ H G w) {t : TypeId} {cs : List SC} {ys : List Value} (hc : All2 (SC.Is ρ) cs ys) :
    St w0 M H0 (ρ ++ [.pointer (some ⟨w.heap.size, 0, none⟩)]) H (G ++ [.box t cs]) { w with heap := w.heap.push (.cells ys.toArray t (0, 0)) } :=
  h.new ⟨_, ys, rfl, heap_push_new, hc.mono fun _ _ => SC.Is.mono (Pre.append _ _)⟩ rfl
theorem ptr_new {ρ : List Value} {G : List SB} (hl : ρ.length = G.length) (g : Nat) : (SV.si (.ce (.ptr G.length 0))).Is (ρ ++ [.pointer (some ⟨g, 0, none⟩)]) (.pointer (some ⟨g, 0, none⟩)) := by
  refine ⟨.pointer (some ⟨g, 0, none⟩), ?_, rfl⟩
  rw [List.getElem?_append_right (by rw [hl]; exact Nat.le_refl _)]
  simp [hl]
theorem allocX_ok {T : Tab} (hT : TabOk P T) {o : Oper} {t : TypeId} (ho : o.op = .alloc t) {F : Fr} {H : Hp} {G : List SB} {K : SV → Hp → List SB → Prop} {Kp : List PanicEntry → Hp → List SB → Prop} (h : allocX T t G fun sv G' => K sv H G') : LO P o F H G K Kp := by
  obtain ⟨ti, ht, h⟩ := tabX_ok hT h
  obtain ⟨cs, h, hc⟩ := zerosX_ok h
  have h := appG_ok h
  intro w0 M hgd H0 ρ a w hs hf
  obtain ⟨i, z, hi, h1, h2, h3, h4⟩ := ht.info
  have hrun : (execOp a.eval o).run P w = .ok (.value (.pointer (some ⟨w.heap.size, 0, none⟩))) { w with heap := w.heap.push (.cells z.cells t (0, 0)) } := by
    simp [execOp, ho, Instr.alloc, zeroValue, typeInfo, hi, h3, newVar, newRow, newObj, Sem.run]
  rw [hrun]
  have hzz : z.cells = (ti.zero.map Z.val).toArray := by rw [← h4]
  rw [hzz]
  refine ⟨_, _, H, _, hs.box (hc ρ), Pre.append _ _, ptr_new hs.len _, .refl _, h⟩
def boxX (t : TypeId) (sv : SV) (G : List SB) (K : SV → List SB → Prop) : Prop :=
  match sv with
  | .si (.ce c) => oneGX G c (appG G (.box t [c]) fun G' n => K (.si (.ce (.ptr n 0))) G')
  | .si (.ag l) => appG G (.box t l) fun G' n => K (.si (.ce (.ptr n 0))) G'
  | _ => False
theorem boxX_ok {o : Oper} {t : TypeId} {x : Operand} (ho : o.op = .box t x) {F : Fr} {H : Hp} {G : List SB} {K : SV → Hp → List SB → Prop} {Kp : List PanicEntry → Hp → List SB → Prop} (h : evX x F fun sv => boxX t sv G fun sv G' => K sv H G') : LO P o F H G K Kp := by
  obtain ⟨sv, h, hx⟩ := evX_ok h
  intro w0 M hgd H0 ρ a w hs hf
  have hrun : (execOp a.eval o).run P w = .ok (.value (.pointer (some ⟨w.heap.size, 0, none⟩))) { w with heap := w.heap.push (.cells (a.eval x).cells t (0, 0)) } := by
    simp [execOp, ho, Instr.box, newVar, newRow, newObj, Sem.run]
  rw [hrun]
  have hv := hx ρ a hf
  unfold boxX at h
  split at h
  · rename_i c
    obtain ⟨h, h1⟩ := oneGX_ok h
    have h := appG_ok h
    rw [(h1 ρ H w _ hs.sw hv).2]
    refine ⟨_, _, H, _, hs.box (ys := [a.eval x]) (.cons hv .nil), Pre.append _ _, ptr_new hs.len _, .refl _, h⟩
  · have h := appG_ok h
    obtain ⟨ys, e, hys⟩ := hv
    rw [e]
    refine ⟨_, _, H, _, hs.box (ys := ys) hys, Pre.append _ _, ptr_new hs.len _, .refl _, h⟩
  · exact h.elim
end
end Go.Kx
