/- Loud operations of a symbolic walk: new boxes, stores, calls, new rows. Generic in the program; no condition of its own. -/
import Derived.Test.YtbjiioclhgdeeaaGreatDoorMB02
import Derived.Laws.CopyRow
import Derived.Deep.AppendSrc
namespace Go.Kx
open Go.RowKit

def Out (P : Program) (R : Value → World → Prop) (Pn : List PanicEntry → World → Prop) : Result Next → Prop
 | .ok (.value v) w' => R v w'
 | .ok .skip w' => R undef w'
 | .ok (.enter f args) w' => Calls P f args w' fun e w'' => match e with
  | .returned v => R v w''
  | .panicked ch => Pn ch w''
  | .outgrown => False
 | .ok (.row row args) w' => Rows P row args w' R
 | .halt (.panic v) w' => Pn [{ v, recovered := false }] w'
 | _ => False
theorem Out.mono {P : Program} {R R' : Value → World → Prop} {Pn Pn' : List PanicEntry → World → Prop} {r : Result Next} (h : Out P R Pn r) (hR : ∀ v w, R v w → R' v w) (hP : ∀ c w, Pn c w → Pn' c w) : Out P R' Pn' r := by
 unfold Out at *
 split <;> simp_all
 ·rename_i f args w'
  refine h.mono fun e w'' he => ?_
  cases e with
  | returned v => exact hR _ _ he
  | panicked ch => exact hP _ _ he
  | outgrown => exact he
 ·exact h.mono fun v w'' he => hR _ _ he
theorem upon_of_out {P : Program} {o : Oper} {a : Act} {next : Act → World → Prop} {Q : Exit → Act → World → Prop} {R : Value → World → Prop} {Pn : List PanicEntry → World → Prop} {r : Result Next} (h : Out P R Pn r)
  (hn : ∀ v w', R v w' → next (a.put o.dst v) w') (hp : ∀ ch w', Pn ch w' → Q (.panic ch) a w') : o.upon P a next Q r := by
 unfold Out at h
 split at h
 ·exact hn _ _ h
 ·exact hn _ _ h
 ·refine Calls.mono h fun e w'' he => ?_
  cases e with
  | returned v => exact hn _ _ he
  | panicked ch => exact hp _ _ he
  | outgrown => exact he.elim
 ·exact Rows.mono h fun v w'' he => hn _ _ he
 ·exact hp _ _ h
 ·exact h.elim

def LO (P : Program) (o : Oper) (F : Fr) (H : Hp) (G : List SB) (K : SV → Hp → List SB → Prop) (Kp : List PanicEntry → Hp → List SB → Prop) : Prop :=
 ∀ (w0 : World) (M : Nat → Prop) (_ : Gd w0 M) (H0 : Hp) (ρ : List Value) (a : Act) (w : World), St w0 M H0 ρ H G w → FOk ρ F a.tmps →
  Out P (fun v w' => ∃ sv ρ' H' G', St w0 M H0 ρ' H' G' w' ∧ Pre ρ ρ' ∧ sv.Is ρ' v ∧ H.Le H' ∧ K sv H' G')
   (fun ch w' => ∃ ρ' H' G', St w0 M H0 ρ' H' G' w' ∧ Pre ρ ρ' ∧ H.Le H' ∧ Kp ch H' G') ((execOp a.eval o).run P w)
theorem LO.of_quiet {P : Program} {o : Oper} {F : Fr} {H : Hp} {G : List SB} {K : SV → Hp → List SB → Prop} {Kp : List PanicEntry → Hp → List SB → Prop} (h : QO P o F H G fun sv => K sv H G) : LO P o F H G K Kp := by
 intro w0 M hgd H0 ρ a w hs hf
 obtain ⟨sv, hk, hq⟩ := h
 obtain ⟨v, h1, h2⟩ := hq ρ a w hf hs.sw
 rw [h2 w hs.sw]
 exact ⟨sv, ρ, H, G, hs, .refl _, h1, .refl _, hk⟩

section
variable {w0 : World} {M : Nat → Prop} {H0 : Hp} {ρ : List Value} {H : Hp} {G : List SB} {w : World}
theorem heap_push_old {w : World} {o : Obj} {k : Nat} (hk : k < w.heap.size) : (w.heap.push o)[k]? = w.heap[k]? := by
 rw [Array.getElem?_push]; simp [Nat.ne_of_lt hk]
theorem heap_push_new {w : World} {o : Obj} : (w.heap.push o)[w.heap.size]? = some o := by simp
theorem Hp.In.lt (h : H.In w) {b o : Nat} {v : Value} (e : H b o = some v) : b < w.heap.size := block_of_cell (h b o v e)
theorem St.new (h : St w0 M H0 ρ H G w) {s : SB} {r : Value} {o : Obj} (hok : s.Ok (ρ ++ [r]) { w with heap := w.heap.push o } r) (hb : s.blk r = some w.heap.size) : St w0 M H0 (ρ ++ [r]) H (G ++ [s]) { w with heap := w.heap.push o } where
 os := h.os
 tape := h.tape
 output := h.output
 size := by show w0.heap.size ≤ (w.heap.push o).size; have := h.size; simp; omega
 old := fun b hb hM => by rw [← h.old b hb hM]; exact heap_push_old (Nat.lt_of_lt_of_le hb h.size)
 hle := h.hle
 hin := fun b o' v e => by
  have hlt := h.hin.lt e
  rw [← h.hin b o' v e]
  exact cell_of_block (heap_push_old hlt)
 hnew := h.hnew
 len := by simp [h.len]
 ok := fun k s' r' h1 h2 => by
  rcases Nat.lt_or_ge k G.length with hk | hk
  ·rw [List.getElem?_append_left hk] at h1
   rw [List.getElem?_append_left (by rw [h.len]; exact hk)] at h2
   refine ((h.ok k s' r' h1 h2).move fun g hg => ?_).mono (Pre.append _ _)
   exact heap_push_old ((h.ok k s' r' h1 h2).lt hg)
  ·have hkl := (List.getElem?_eq_some_iff.1 h1).1
   simp at hkl
   obtain rfl : k = G.length := by omega
   rw [List.getElem?_append_right (Nat.le_refl _)] at h1
   rw [List.getElem?_append_right (by rw [h.len]; exact Nat.le_refl _)] at h2
   simp at h1
   simp [h.len] at h2
   subst h1 h2
   exact hok
 own := fun k g hg => by
  obtain ⟨s', r', h1, h2, h3⟩ := blkAt_some hg
  rcases Nat.lt_or_ge k G.length with hk | hk
  ·rw [List.getElem?_append_left hk] at h1
   rw [List.getElem?_append_left (by rw [h.len]; exact hk)] at h2
   exact h.own k g (by rw [blkAt_eq h1 h2]; exact h3)
  ·have hkl := (List.getElem?_eq_some_iff.1 h1).1
   simp at hkl
   obtain rfl : k = G.length := by omega
   rw [List.getElem?_append_right (Nat.le_refl _)] at h1
   rw [List.getElem?_append_right (by rw [h.len]; exact Nat.le_refl _)] at h2
   simp at h1
   simp [h.len] at h2
   subst h1 h2
   rw [hb] at h3; injection h3 with h3; subst h3
   refine ⟨.inl h.size, fun o' => ?_⟩
   cases e : H w.heap.size o' with
   | none => rfl
   | some v => exact absurd (h.hin.lt e) (Nat.lt_irrefl _)
 inj := fun i j g hi hj => by
  have key : ∀ k, blkAt (ρ ++ [r]) (G ++ [s]) k = some g → (k < G.length ∧ blkAt ρ G k = some g ∧ g < w.heap.size) ∨ (k = G.length ∧ g = w.heap.size) := fun k hg => by
   obtain ⟨s', r', h1, h2, h3⟩ := blkAt_some hg
   rcases Nat.lt_or_ge k G.length with hk | hk
   ·rw [List.getElem?_append_left hk] at h1
    rw [List.getElem?_append_left (by rw [h.len]; exact hk)] at h2
    exact .inl ⟨hk, by rw [blkAt_eq h1 h2]; exact h3, (h.ok k s' r' h1 h2).lt h3⟩
   ·have hkl := (List.getElem?_eq_some_iff.1 h1).1
    simp at hkl
    obtain rfl : k = G.length := by omega
    rw [List.getElem?_append_right (Nat.le_refl _)] at h1
    rw [List.getElem?_append_right (by rw [h.len]; exact Nat.le_refl _)] at h2
    simp at h1
    simp [h.len] at h2
    subst h1 h2
    rw [hb] at h3; injection h3 with h3
    exact .inr ⟨rfl, h3.symm⟩
  rcases key i hi with ⟨_, a1, a2⟩ | ⟨a1, a2⟩ <;> rcases key j hj with ⟨_, b1, b2⟩ | ⟨b1, b2⟩
  ·exact h.inj i j g a1 b1
  ·omega
  ·omega
  ·omega
theorem St.turn (h : St w0 M H0 ρ H G w) {k : Nat} {s s' : SB} {r : Value} (hk : G[k]? = some s) (hr : ρ[k]? = some r) {g : Nat} (hg : s.blk r = some g) {w' : World}
  (e1 : w'.os = w.os) (e2 : w'.tape = w.tape) (e3 : w'.output = w.output) (e4 : w.heap.size ≤ w'.heap.size) (e5 : ∀ b, b < w.heap.size → b ≠ g → w'.heap[b]? = w.heap[b]?)
  (hok : s'.Ok ρ w' r) (hb : s'.blk r = some g ∨ s'.blk r = none) : St w0 M H0 ρ H (G.set k s') w' := by
 have hgk : blkAt ρ G k = some g := by rw [blkAt_eq hk hr]; exact hg
 have hkl := (List.getElem?_eq_some_iff.1 hk).1
 have hstay : ∀ b o v, H b o = some v → w'.cell? ⟨b, o, none⟩ = w.cell? ⟨b, o, none⟩ := fun b o v e => cell_of_block (e5 b (h.hin.lt e) fun eb => by
  subst eb
  rw [(h.own k b hgk).2 o] at e; cases e)
 have key : ∀ j x, blkAt ρ (G.set k s') j = some x → blkAt ρ G j = some x := fun j x hx => by
  obtain ⟨s1, r1, h1, h2, h3⟩ := blkAt_some hx
  by_cases hjk : k = j
  ·subst hjk
   rw [List.getElem?_set_self hkl] at h1
   injection h1 with h1; subst h1
   rw [hr] at h2; injection h2 with h2; subst h2
   rcases hb with hb | hb <;> rw [hb] at h3
   ·injection h3 with h3; subst h3; exact hgk
   ·cases h3
  ·rw [List.getElem?_set_ne hjk] at h1
   rw [blkAt_eq h1 h2]; exact h3
 refine ⟨e1.trans h.os, e2.trans h.tape, e3.trans h.output, Nat.le_trans h.size e4, ?_, h.hle, fun b o v e => (hstay b o v e).trans (h.hin b o v e), h.hnew, by simp [h.len], ?_, fun j x hx => h.own j x (key j x hx), fun i j x hi hj => h.inj i j x (key i x hi) (key j x hj)⟩
 ·intro b hb' hM
  rw [← h.old b hb' hM]
  refine e5 b (Nat.lt_of_lt_of_le hb' h.size) fun eb => ?_
  subst eb
  rcases (h.own k b hgk).1 with h1 | h1
  ·omega
  ·exact hM h1
 ·intro j s1 r1 h1 h2
  by_cases hjk : k = j
  ·subst hjk
   rw [List.getElem?_set_self hkl] at h1
   injection h1 with h1; subst h1
   rw [hr] at h2; injection h2 with h2; subst h2
   exact hok
  ·rw [List.getElem?_set_ne hjk] at h1
   refine (h.ok j s1 r1 h1 h2).move fun x hx => ?_
   refine e5 x ((h.ok j s1 r1 h1 h2).lt hx) fun e => ?_
   subst e
   exact hjk (h.inj k j x hgk (by rw [blkAt_eq h1 h2]; exact hx))
theorem St.give (h : St w0 M H0 ρ H G w) {k : Nat} {s : SB} {r : Value} (hk : G[k]? = some s) (hr : ρ[k]? = some r) {g : Nat} (hg : s.blk r = some g) {H' : Hp}
  (hH : ∀ b o v, H' b o = some v → H b o = some v ∨ (b = g ∧ w.cell? ⟨g, o, none⟩ = some v)) (hle : H.Le H') {s' : SB} (hs' : s'.Ok ρ w r) (hb : s'.blk r = none) : St w0 M H0 ρ H' (G.set k s') w := by
 have hgk : blkAt ρ G k = some g := by rw [blkAt_eq hk hr]; exact hg
 have hkl := (List.getElem?_eq_some_iff.1 hk).1
 have key : ∀ j x, blkAt ρ (G.set k s') j = some x → blkAt ρ G j = some x ∧ x ≠ g := fun j x hx => by
  obtain ⟨s1, r1, h1, h2, h3⟩ := blkAt_some hx
  by_cases hjk : k = j
  ·subst hjk
   rw [List.getElem?_set_self hkl] at h1
   injection h1 with h1; subst h1
   rw [hr] at h2; injection h2 with h2; subst h2
   rw [hb] at h3; cases h3
  ·rw [List.getElem?_set_ne hjk] at h1
   have hx' : blkAt ρ G j = some x := by rw [blkAt_eq h1 h2]; exact h3
   exact ⟨hx', fun e => hjk (h.inj k j x (by rw [e]; exact hgk) hx')⟩
 refine ⟨h.os, h.tape, h.output, h.size, h.old, h.hle.trans hle, ?_, ?_, by simp [h.len], ?_, ?_, fun i j x hi hj => h.inj i j x (key i x hi).1 (key j x hj).1⟩
 ·intro b o v e
  rcases hH b o v e with e | ⟨rfl, e⟩
  ·exact h.hin b o v e
  ·exact e
 ·intro b o v e
  rcases hH b o v e with e | ⟨rfl, e⟩
  ·exact h.hnew b o v e
  ·exact .inr (h.own k b hgk).1
 ·intro j s1 r1 h1 h2
  by_cases hjk : k = j
  ·subst hjk
   rw [List.getElem?_set_self hkl] at h1
   injection h1 with h1; subst h1
   rw [hr] at h2; injection h2 with h2; subst h2
   exact hs'
  ·rw [List.getElem?_set_ne hjk] at h1
   exact h.ok j s1 r1 h1 h2
 ·intro j x hx
  obtain ⟨hx', hne⟩ := key j x hx
  refine ⟨(h.own j x hx').1, fun o => ?_⟩
  cases e : H' x o with
  | none => rfl
  | some v =>
   rcases hH x o v e with e | ⟨e, _⟩
   ·rw [(h.own j x hx').2 o] at e; cases e
   ·exact absurd e hne
theorem St.lay (h : St w0 M H0 ρ H G w) {o : Obj} {H' : Hp} (hle : H.Le H') (hH : ∀ b i v, H' b i = some v → H b i = some v ∨ (b = w.heap.size ∧ World.cell? { w with heap := w.heap.push o } ⟨b, i, none⟩ = some v)) : St w0 M H0 ρ H' G { w with heap := w.heap.push o } where
 os := h.os
 tape := h.tape
 output := h.output
 size := by show w0.heap.size ≤ (w.heap.push o).size; have := h.size; simp; omega
 old := fun b hb hM => by rw [← h.old b hb hM]; exact heap_push_old (Nat.lt_of_lt_of_le hb h.size)
 hle := h.hle.trans hle
 hin := fun b i v e => by
  rcases hH b i v e with e | ⟨_, e⟩
  ·rw [← h.hin b i v e]; exact cell_of_block (heap_push_old (h.hin.lt e))
  ·exact e
 hnew := fun b i v e => by
  rcases hH b i v e with e | ⟨rfl, _⟩
  ·exact h.hnew b i v e
  ·exact .inr (.inl h.size)
 len := h.len
 ok := fun k s r h1 h2 => (h.ok k s r h1 h2).move fun g hg => heap_push_old ((h.ok k s r h1 h2).lt hg)
 own := fun k g hg => ⟨(h.own k g hg).1, fun i => by
  cases e : H' g i with
  | none => rfl
  | some v =>
   rcases hH g i v e with e | ⟨e, _⟩
   ·rw [(h.own k g hg).2 i] at e; cases e
   ·have := h.lt hg; omega⟩
 inj := h.inj
end

def Hp.put (H : Hp) (g : Nat) (ys : List Value) : Hp := fun b o => if b = g then ys[o]? else H b o
theorem Hp.put_le {H : Hp} {g : Nat} {ys : List Value} (hg : H.Out g) : H.Le (H.put g ys) := fun b o v e => by
 unfold Hp.put
 split
 ·rename_i hb; subst hb; rw [hg o] at e; cases e
 ·exact e
theorem Hp.put_rd {H : Hp} {g : Nat} {ys : List Value} : RdN (H.put g ys) (some ⟨g, 0, none⟩) 0 ys := ⟨g, 0, rfl, fun j x hx => by simp [Hp.put, hx]⟩
theorem Hp.put_inv {H : Hp} {g : Nat} {ys : List Value} {b o : Nat} {v : Value} (e : H.put g ys b o = some v) : H b o = some v ∨ (b = g ∧ ys[o]? = some v) := by
 unfold Hp.put at e
 split at e
 ·rename_i hb; exact .inr ⟨hb, e⟩
 ·exact .inl e
theorem St.fresh {w0 : World} {M : Nat → Prop} {H0 : Hp} {ρ : List Value} {H : Hp} {G : List SB} {w : World} (h : St w0 M H0 ρ H G w) : H.Out w.heap.size := fun o => by
 cases e : H w.heap.size o with
 | none => rfl
 | some v => exact absurd (h.hin.lt e) (Nat.lt_irrefl _)

section
variable {P : Program}
def appG : List SB → SB → (List SB → Nat → Prop) → Prop
 | [], s, K => K [s] 0
 | t :: r, s, K => appG r s fun l n => K (t :: l) (n + 1)
theorem appG_ok {G : List SB} {s : SB} {K : List SB → Nat → Prop} (h : appG G s K) : K (G ++ [s]) G.length := by
 induction G generalizing K with
 | nil => exact h
 | cons t r ih => exact ih h
def setG : List SB → Nat → SB → (List SB → Prop) → Prop
 | [], _, _, _ => False
 | _ :: r, 0, s, K => K (s :: r)
 | t :: r, k + 1, s, K => setG r k s fun l => K (t :: l)
theorem setG_ok {G : List SB} {k : Nat} {s : SB} {K : List SB → Prop} (h : setG G k s K) : k < G.length ∧ K (G.set k s) := by
 induction G generalizing k K with
 | nil => exact h.elim
 | cons t r ih =>
  cases k with
  | zero => exact ⟨by simp, h⟩
  | succ k => obtain ⟨h1, h2⟩ := ih h; exact ⟨by simpa using h1, by simpa using h2⟩
def allocX (T : Tab) (t : TypeId) (G : List SB) (K : SV → List SB → Prop) : Prop :=
 tabX T t fun ti => zerosX ti.zero fun cs => appG G (.box t cs) fun G' n => K (.si (.ce (.ptr n 0))) G'
theorem St.box {w0 : World} {M : Nat → Prop} {H0 : Hp} {ρ : List Value} {H : Hp} {G : List SB} {w : World} (h : St w0 M H0 ρ H G w) {t : TypeId} {cs : List SC} {ys : List Value} (hc : All2 (SC.Is ρ) cs ys) :
  St w0 M H0 (ρ ++ [.pointer (some ⟨w.heap.size, 0, none⟩)]) H (G ++ [.box t cs]) { w with heap := w.heap.push (.cells ys.toArray t (0, 0)) } :=
 h.new ⟨_, ys, rfl, heap_push_new, hc.mono fun _ _ => SC.Is.mono (Pre.append _ _)⟩ rfl
theorem ptr_new {ρ : List Value} {G : List SB} (hl : ρ.length = G.length) (g : Nat) : (SV.si (.ce (.ptr G.length 0))).Is (ρ ++ [.pointer (some ⟨g, 0, none⟩)]) (.pointer (some ⟨g, 0, none⟩)) := by
 refine ⟨.pointer (some ⟨g, 0, none⟩), ?_, rfl⟩
 rw [List.getElem?_append_right (by rw [hl]; exact Nat.le_refl _)]
 simp [hl]
theorem allocX_ok {T : Tab} (hT : TabOk P T) {o : Oper} {t : TypeId} (ho : o.op = .alloc t) {F : Fr} {H : Hp} {G : List SB} {K : SV → Hp → List SB → Prop} {Kp : List PanicEntry → Hp → List SB → Prop} (h : allocX T t G fun sv G' => K sv H G') : LO P o F H G K Kp := by
 obtain ⟨ti, ht, h⟩ := tabX_ok hT h
 obtain ⟨cs, h, hc⟩ := zerosX_ok h
 have h := appG_ok h
 intro w0 M hgd H0 ρ a w hs hf
 obtain ⟨i, z, hi, h1, h2, h3, h4⟩ := ht.info
 have hrun : (execOp a.eval o).run P w = .ok (.value (.pointer (some ⟨w.heap.size, 0, none⟩))) { w with heap := w.heap.push (.cells z.cells t (0, 0)) } := by
  simp [execOp, ho, Instr.alloc, zeroValue, typeInfo, hi, h3, newVar, newRow, newObj, Sem.run]
 rw [hrun]
 have hzz : z.cells = (ti.zero.map Z.val).toArray := by rw [← h4]
 rw [hzz]
 refine ⟨_, _, H, _, hs.box (hc ρ), Pre.append _ _, ptr_new hs.len _, .refl _, h⟩
def boxX (t : TypeId) (sv : SV) (G : List SB) (K : SV → List SB → Prop) : Prop :=
 match sv with
 | .si (.ce c) => oneGX G c (appG G (.box t [c]) fun G' n => K (.si (.ce (.ptr n 0))) G')
 | .si (.ag l) => appG G (.box t l) fun G' n => K (.si (.ce (.ptr n 0))) G'
 | _ => False
theorem boxX_ok {o : Oper} {t : TypeId} {x : Operand} (ho : o.op = .box t x) {F : Fr} {H : Hp} {G : List SB} {K : SV → Hp → List SB → Prop} {Kp : List PanicEntry → Hp → List SB → Prop} (h : evX x F fun sv => boxX t sv G fun sv G' => K sv H G') : LO P o F H G K Kp := by
 obtain ⟨sv, h, hx⟩ := evX_ok h
 intro w0 M hgd H0 ρ a w hs hf
 have hrun : (execOp a.eval o).run P w = .ok (.value (.pointer (some ⟨w.heap.size, 0, none⟩))) { w with heap := w.heap.push (.cells (a.eval x).cells t (0, 0)) } := by
  simp [execOp, ho, Instr.box, newVar, newRow, newObj, Sem.run]
 rw [hrun]
 have hv := hx ρ a hf
 unfold boxX at h
 split at h
 ·rename_i c
  obtain ⟨h, h1⟩ := oneGX_ok h
  have h := appG_ok h
  rw [(h1 ρ H w _ hs.sw hv).2]
  refine ⟨_, _, H, _, hs.box (ys := [a.eval x]) (.cons hv .nil), Pre.append _ _, ptr_new hs.len _, .refl _, h⟩
 ·have h := appG_ok h
  obtain ⟨ys, e, hys⟩ := hv
  rw [e]
  refine ⟨_, _, H, _, hs.box (ys := ys) hys, Pre.append _ _, ptr_new hs.len _, .refl _, h⟩
 ·exact h.elim
end
end Go.Kx
namespace Go.Kx
open Go.RowKit

section
variable {P : Program}

theorem run_store_block {t : TypeId} {ti : TI} (ht : TOk P t ti) {w : World} {g off : Nat} {cur : Array Value} {tb : TypeId} (hg : w.heap[g]? = some (.cells cur tb (0, 0))) {v : Value} {vs : List Value} (hv : v.cells.toList = vs) (hl : vs.length = ti.size)
  (hfit : off + vs.length ≤ cur.size) (h1 : ∀ u ∈ vs, u.oneCell' = true) : (Instr.storeAt t (.pointer (some ⟨g, off, none⟩)) v).run P w = .ok () (w.setRow g (splice cur.toList off vs).toArray) := by
 have hst := run_storeCells_at P g off tb vs 0 cur w hg (by simpa using hfit) h1
 simp only [Nat.add_zero] at hst
 have hsz : v.cells.size = ti.size := by rw [← Array.length_toList, hv, hl]
 simp only [Instr.storeAt, Instr.sureAddr, Sem.run_bind, Sem.run_pure, Result.andThen_ok, storeVar, ht.sizeOf w, hsz]
 rw [if_neg (by simp)]
 rw [hv]
 exact hst
theorem run_store_blockF {t : TypeId} {ti : TI} (ht : TOk P t ti) {w : World} {g off : Nat} {cur : Array Value} {tb : TypeId} {fz : Nat × Nat} (hg : w.heap[g]? = some (.cells cur tb fz)) {v u : Value} (hv : v.cells.toList = [u]) (hl : ti.size = 1)
  (hfz : off < fz.1) (hfit : off < cur.size) (h1 : u.oneCell' = true) : (Instr.storeAt t (.pointer (some ⟨g, off, none⟩)) v).run P w = .ok () (w.setRow g (splice cur.toList off [u]).toArray) := by
 have hcell : w.cell? ⟨g, off, none⟩ = some cur[off] := by simp [World.cell?, hg, hfit]
 have hfro : w.frozen? ⟨g, off, none⟩ = false := by
  obtain ⟨lo, hi⟩ := fz
  simp only [World.frozen?, hg, Bool.and_eq_false_iff, decide_eq_false_iff_not]
  left
  simp only at hfz
  omega
 have hadd : (⟨g, off, none⟩ : Addr).add 0 = ⟨g, off, none⟩ := by unfold Addr.add; split <;> simp_all
 have hst : (store ((⟨g, off, none⟩ : Addr).add 0) u).run P w = .ok () (w.setRow g (cur.setIfInBounds off u)) := by
  rw [hadd, run_store P w _ u _ h1, hcell]
  simp [hfro, setCell_eq_setRow w g off cur tb fz u hg]
 have hsz : v.cells.size = ti.size := by rw [← Array.length_toList, hv, hl]; rfl
 simp only [Instr.storeAt, Instr.sureAddr, Sem.run_bind, Sem.run_pure, Result.andThen_ok, storeVar, ht.sizeOf w, hsz]
 rw [if_neg (by simp)]
 rw [hv]
 simp only [storeCells, Sem.run_bind, hst, Result.andThen_ok, Sem.run_pure]
 congr 2
 apply Array.ext'
 rw [Array.toList_setIfInBounds, List.set_eq_take_append_cons_drop, if_pos (by simpa using hfit)]
 unfold splice
 simp
def storeX (T : Tab) (t : TypeId) (c : SC) (sv : SV) (G : List SB) (K : List SB → Prop) : Prop :=
 match c with
 | .ptr k off => tabX T t fun ti => cellsX sv fun l => lenC l fun m => natEq m ti.size (pos m <| allOne G l <| getG G k fun s => match s with
  | .box tb cs => putC cs off l fun cs' => setG G k (.box tb cs') K
  | .arr tb xs => allVal l fun ys => off + ys.length ≤ xs.length ∧ setG G k (.arr tb (splice xs off ys)) K
  | .row e sz n xs => allVal l fun ys => off + ys.length ≤ xs.length ∧ setG G k (.row e sz n (splice xs off ys)) K
  | .byt e n xs => allVal l fun ys => (ys.length = 1 ∧ off < xs.length) ∧ setG G k (.byt e n (splice xs off ys)) K
  | _ => False)
 | _ => False
theorem splice_length {α : Type} {l : List α} {o : Nat} {ys : List α} (h : o + ys.length ≤ l.length) : (splice l o ys).length = l.length := by simp [splice]; omega
theorem take_splice {α : Type} {l : List α} {o n : Nat} {ys : List α} (h : o + ys.length ≤ n) (hn : n ≤ l.length) : (splice l o ys).take n = splice (l.take n) o ys := by
 apply List.ext_getElem?
 intro i
 rw [List.getElem?_take]
 unfold splice
 by_cases hi : i < n
 ·rw [if_pos hi]
  rcases Nat.lt_or_ge i o with h1 | h1
  ·rw [List.append_assoc, List.append_assoc, List.getElem?_append_left (by simp; omega), List.getElem?_append_left (by simp; omega), List.getElem?_take, List.getElem?_take, List.getElem?_take, if_pos h1, if_pos h1, if_pos hi]
  ·rcases Nat.lt_or_ge i (o + ys.length) with h2 | h2
   ·rw [List.append_assoc, List.append_assoc, List.getElem?_append_right (by simp; omega), List.getElem?_append_left (by simp; omega), List.getElem?_append_right (by simp; omega), List.getElem?_append_left (by simp; omega)]
    congr 1
    simp; omega
   ·rw [List.getElem?_append_right (by simp; omega), List.getElem?_append_right (by simp; omega), List.getElem?_drop, List.getElem?_drop, List.getElem?_take, if_pos (by simp; omega)]
    congr 1
    simp; omega
 ·rw [if_neg hi, eq_comm, List.getElem?_eq_none]
  simp; omega
theorem drop_splice {α : Type} {l : List α} {o off : Nat} {ys : List α} (h : o + off ≤ l.length) : (splice l (o + off) ys).drop o = splice (l.drop o) off ys := by
 unfold splice
 rw [List.append_assoc, List.append_assoc, List.drop_append_of_le_length (by simp; omega), List.drop_take, List.drop_drop]
 congr 1
 ·congr 1; omega
 ·congr 2; omega
theorem storeX_ok {T : Tab} (hT : TabOk P T) {o : Oper} {t : TypeId} {x y : Operand} (ho : o.op = .store t x y) {F : Fr} {H : Hp} {G : List SB} {K : SV → Hp → List SB → Prop} {Kp : List PanicEntry → Hp → List SB → Prop}
  (h : evX x F fun sx => evX y F fun sy => cellX sx fun c => storeX T t c sy G fun G' => K (pv undef) H G') : LO P o F H G K Kp := by
 obtain ⟨sx, h, hx⟩ := evX_ok h
 obtain ⟨sy, h, hy⟩ := evX_ok h
 obtain ⟨c, rfl, h⟩ := cellX_ok h
 cases c with
 | ptr k off =>
  obtain ⟨ti, ht, h⟩ := tabX_ok hT h
  obtain ⟨l, h, hl⟩ := cellsX_ok h
  have h := lenC_ok h
  obtain ⟨hm, h⟩ := natEq_ok h
  obtain ⟨hpos, h⟩ := pos_ok h
  obtain ⟨h, hone⟩ := allOne_ok h
  obtain ⟨s, hk, h⟩ := getG_ok h
  intro w0 M hgd H0 ρ a w hs hf
  have hp := hx ρ a hf
  have hv := hy ρ a hf
  obtain ⟨r, hr, hpt⟩ := hp
  -- the value's cells
  have hcells : ∃ zs, (a.eval y).cells.toList = zs ∧ All2 (SC.Is ρ) l zs := by
   rcases hl ρ _ hv with ⟨c, rfl, rfl⟩ | ⟨zs, e, hz⟩
   ·have h1 := hone ρ H w [a.eval y] hs.sw (.cons hv .nil) _ List.mem_cons_self
    refine ⟨[a.eval y], ?_, .cons hv .nil⟩
    generalize a.eval y = v at *
    cases v <;> first | rfl | cases h1
   ·exact ⟨_, by rw [e]; rfl, hz⟩
  obtain ⟨zs, hz1, hz2⟩ := hcells
  have hzl : zs.length = ti.size := by rw [← hz2.length, hm]
  have hzone := hone ρ H w zs hs.sw hz2
  have fin : ∀ (off g : Nat) (cur : Array Value) (tb : TypeId), a.eval x = .pointer (some ⟨g, off, none⟩) → w.heap[g]? = some (.cells cur tb (0, 0)) → off + zs.length ≤ cur.size →
    (execOp a.eval o).run P w = .ok .skip (w.setRow g (splice cur.toList off zs).toArray) := fun off g cur tb e hg hfit => by
   have := run_store_block ht hg hz1 hzl hfit hzone
   simp [execOp, ho, e, this]
  have turn : ∀ (off g : Nat) (cur : Array Value) (tb : TypeId) (s' : SB), w.heap[g]? = some (.cells cur tb (0, 0)) → s.blk r = some g → s'.Ok ρ (w.setRow g (splice cur.toList off zs).toArray) r → (s'.blk r = some g ∨ s'.blk r = none) →
    St w0 M H0 ρ H (G.set k s') (w.setRow g (splice cur.toList off zs).toArray) := fun off g cur tb s' hg hb hok hb' =>
   hs.turn hk hr hb rfl rfl rfl (by simp) (fun b _ hne => setRow_other w g b _ hne) hok hb'
  cases s with
  | box tb cs =>
   obtain ⟨cs', h, h3, h4⟩ := putC_ok h
   obtain ⟨_, h⟩ := setG_ok h
   obtain ⟨g, ys, rfl, hg, hcs⟩ := hs.ok k _ r hk hr
   simp only [ptrAt, Option.some.injEq] at hpt
   have hlne : l ≠ [] := fun e => hpos (by rw [e]; rfl)
   have h3' : off + l.length ≤ cs.length := h3.resolve_left hlne
   have h4' : cs' = splice cs off l := by
    rcases h4 with ⟨e, _⟩ | e
    ·exact absurd e hlne
    ·exact e
   subst h4'
   have hcl := hcs.length
   have hzl2 := hz2.length
   rw [fin off g ys.toArray tb hpt.symm hg (by simp; omega)]
   refine ⟨_, ρ, H, _, turn off g ys.toArray tb (.box tb (splice cs off l)) hg rfl ⟨g, splice ys off zs, rfl, setRow_heap w g _ _ _ _ hg, ?_⟩ (.inl rfl), .refl _, pv_is _ _, .refl _, h⟩
   exact ((hcs.take off).append hz2).append (by rw [hzl2]; exact hcs.drop _)
  | arr tb xs =>
   obtain ⟨vs, h, hvs⟩ := allVal_ok h
   obtain ⟨hfit, h⟩ := h
   obtain ⟨_, h⟩ := setG_ok h
   obtain ⟨g, rfl, hg⟩ := hs.ok k _ r hk hr
   simp only [ptrAt, Option.some.injEq] at hpt
   obtain rfl := hvs ρ zs hz2
   rw [fin off g xs.toArray tb hpt.symm hg (by simpa using hfit)]
   exact ⟨_, ρ, H, _, turn off g xs.toArray tb (.arr tb (splice xs off zs)) hg rfl ⟨g, rfl, setRow_heap w g _ _ _ _ hg⟩ (.inl rfl), .refl _, pv_is _ _, .refl _, h⟩
  | row e sz n xs =>
   obtain ⟨vs, h, hvs⟩ := allVal_ok h
   obtain ⟨hfit, h⟩ := h
   obtain ⟨_, h⟩ := setG_ok h
   obtain rfl := hvs ρ zs hz2
   have hrow := hs.ok k _ r hk hr
   rcases hrow.2 with ⟨rfl, _⟩ | ⟨g, oo, cap, cur, rfl, hg, hnc, hcm, hcs, htk⟩
   ·simp [ptrAt] at hpt
   ·simp only [ptrAt, Option.some.injEq] at hpt
    have hxl := hrow.1
    have hlen : oo + n * sz ≤ cur.size := Nat.le_trans (Nat.add_le_add_left (Nat.mul_le_mul_right _ hnc) _) hcs
    rw [fin (oo + off) g cur e hpt.symm hg (by omega)]
    refine ⟨_, ρ, H, _, turn (oo + off) g cur e (.row e sz n (splice xs off zs)) hg rfl ⟨by rw [splice_length hfit]; exact hxl, .inr ⟨g, oo, cap, _, rfl, setRow_heap w g _ _ _ _ hg, hnc, hcm, ?_, ?_⟩⟩ (.inl rfl), .refl _, pv_is _ _, .refl _, h⟩
    ·simp only [List.size_toArray]
     rw [splice_length (by simp; omega)]
     simpa using hcs
    ·simp only
     rw [drop_splice (by simp; omega), take_splice (by omega) (by simp; omega), htk]
  | byt e n xs =>
   obtain ⟨vs, h, hvs⟩ := allVal_ok h
   obtain ⟨⟨hone1, hfit⟩, h⟩ := h
   obtain ⟨_, h⟩ := setG_ok h
   obtain rfl := hvs ρ zs hz2
   obtain ⟨u, rfl⟩ : ∃ u, zs = [u] := List.length_eq_one_iff.1 hone1
   obtain ⟨hxl, g, cap, cur, fz, rfl, hnc, hg, hfz, hcs, htk⟩ := hs.ok k _ r hk hr
   simp only [ptrAt, Option.some.injEq, Nat.zero_add] at hpt
   have hrun : (execOp a.eval o).run P w = .ok .skip (w.setRow g (splice cur.toList off [u]).toArray) := by
    have := run_store_blockF ht hg hz1 (by rw [← hzl]; rfl) (Nat.lt_of_lt_of_le (hxl ▸ hfit) hfz) (Nat.lt_of_lt_of_le (hxl ▸ hfit) hcs) (hzone u (by simp))
    simp [execOp, ho, ← hpt, this]
   rw [hrun]
   have hlen : (splice cur.toList off [u]).length = cur.size := by rw [splice_length (by simp; omega)]; simp
   refine ⟨_, ρ, H, _, hs.turn hk hr (g := g) rfl rfl rfl rfl (by simp) (fun b _ hne => setRow_other w g b _ hne) (s' := .byt e n (splice xs off [u])) ⟨by rw [splice_length (by simp; omega)]; exact hxl, g, cap, _, fz, rfl, hnc, setRow_heap w g _ _ _ _ hg, hfz, by simp only [List.size_toArray]; omega, ?_⟩ (.inl rfl), .refl _, pv_is _ _, .refl _, h⟩
   simp only
   rw [take_splice (by simp; omega) (by simp; omega), htk]
  | _ => exact h.elim
 | _ => exact h.elim

def calleeX (sv : SV) (K : FuncId → List SV → List SV → Prop) : Prop :=
 match sv with
 | .si (.ce (.fn (.func f) n caps)) => K f ((caps.take n).map fun p => .si (.ce (.ptr p.1 p.2))) ((caps.drop n).map fun p => .si (.ce (.ptr p.1 p.2)))
 | .si (.ce (.val (.func (.func f) x y))) => K f (x.toList.map fun v => .si (.ce (.val v))) (y.toList.map fun v => .si (.ce (.val v)))
 | _ => False
theorem calleeX_ok {sv : SV} {K : FuncId → List SV → List SV → Prop} (h : calleeX sv K) :
  ∃ f s1 s2, K f s1 s2 ∧ ∀ ρ v, sv.Is ρ v → ∃ x y : List Value, v = .func (.func f) x.toArray y.toArray ∧ All2 (SV.Is ρ) s1 x ∧ All2 (SV.Is ρ) s2 y := by
 unfold calleeX at h
 split at h
 ·refine ⟨_, _, _, h, fun ρ v hv => ?_⟩
  obtain ⟨ys, rfl, hys⟩ := hv
  exact ⟨_, _, rfl, All2.map_left ((hys.take _).mono fun p z hz => hz), All2.map_left ((hys.drop _).mono fun p z hz => hz)⟩
 ·rename_i f x y
  refine ⟨_, _, _, h, fun ρ v hv => ⟨x.toList, y.toList, hv, ?_, ?_⟩⟩
  ·generalize x.toList = l; clear h hv; induction l with | nil => exact .nil | cons a l ih => exact .cons rfl ih
  ·generalize y.toList = l; clear h hv; induction l with | nil => exact .nil | cons a l ih => exact .cons rfl ih
 ·exact h.elim
def Bodied (P : Program) (f : FuncId) : Prop := ∃ fn, P.funcs[f]? = some fn ∧ fn.body.isSome = true ∧ (fn.name == "runtime.NumGoroutine") = false
theorem run_callFunc {f : FuncId} (hb : Bodied P f) (args : Array Value) (w : World) : (callFunc f args).run P w = .ok (.enter f args) w := by
 obtain ⟨fn, h1, h2, h3⟩ := hb
 have h3' : ¬ fn.name = "runtime.NumGoroutine" := by simpa using h3
 have h2' : ¬ fn.body = none := fun e => by rw [e] at h2; cases h2
 simp [callFunc, program, Sem.run, h1, h3', h2']
def callX (P : Program) (fv : SV) (args : List SV) (H : Hp) (G : List SB) (K : SV → Hp → List SB → Prop) (Kp : List PanicEntry → Hp → List SB → Prop) : Prop :=
 calleeX fv fun f s1 s2 => Bodied P f ∧ CallS P f (s1 ++ args ++ s2) H G fun e H' G' => match e with
  | .ret v => K v H' G'
  | .pan ch => Kp ch H' G'
theorem callX_ok {o : Oper} {fx : Operand} {args : Array Operand} {ts : Array TypeId} (ho : o.op = .call ⟨.value fx, args, ts⟩) {F : Fr} {H : Hp} {G : List SB} {K : SV → Hp → List SB → Prop} {Kp : List PanicEntry → Hp → List SB → Prop}
  (h : evX fx F fun fv => evL args.toList F fun l => callX P fv l H G K Kp) : LO P o F H G K Kp := by
 obtain ⟨fv, h, hfv⟩ := evX_ok h
 obtain ⟨l, h, hl⟩ := evL_ok h
 obtain ⟨f, s1, s2, ⟨hb, h⟩, hc⟩ := calleeX_ok h
 intro w0 M hgd H0 ρ a w hs hf
 obtain ⟨x, y, e, hx, hy⟩ := hc ρ _ (hfv ρ a hf)
 have hargs : All2 (SV.Is ρ) (s1 ++ l ++ s2) (x ++ args.toList.map a.eval ++ y) := (hx.append (hl ρ a hf)).append hy
 have hrun : (execOp a.eval o).run P w = .ok (.enter f (x ++ args.toList.map a.eval ++ y).toArray) w := by
  have ea : (args.toList.map a.eval).toArray = args.map a.eval := by rw [← Array.toList_map]
  simp only [execOp, ho, resolve, Sem.run_bind, Sem.run_pure, Result.andThen_ok, e, Deferred.ofValue, invoke, run_callFunc hb]
  congr 2
  simp [← ea]
 rw [hrun]
 refine (h.to w0 M hgd H0 ρ w _ hs hargs).mono fun e' w' he => ?_
 cases e' with
 | returned v => obtain ⟨sv, ρ', H', G', h1, h2, h3, h4, h5⟩ := he; exact ⟨sv, ρ', H', G', h1, h2, h3, h4, h5⟩
 | panicked ch => obtain ⟨ρ', H', G', h1, h2, h4, h5⟩ := he; exact ⟨ρ', H', G', h1, h2, h4, h5⟩
 | outgrown => exact he

def repZ (zs : List SC) : Nat → (List SC → Prop) → Prop
 | 0, K => K []
 | n + 1, K => repZ zs n fun l => appC zs l K
where appC : List SC → List SC → (List SC → Prop) → Prop
 | [], l, K => K l
 | c :: r, l, K => appC r l fun l' => K (c :: l')
theorem appC_ok {a l : List SC} {K : List SC → Prop} (h : repZ.appC a l K) : K (a ++ l) := by
 induction a generalizing K with
 | nil => exact h
 | cons c r ih => exact ih h
theorem repZ_ok {zs : List SC} {n : Nat} {K : List SC → Prop} (h : repZ zs n K) : K (List.replicate n zs).flatten := by
 induction n generalizing K with
 | zero => exact h
 | succ n ih =>
  have := appC_ok (ih h)
  rw [List.replicate_succ, List.flatten_cons]; exact this
def buildSliceX (T : Tab) (t : TypeId) (len : Nat) (parts : List (Nat × Operand)) (F : Fr) (H : Hp) (G : List SB) (K : SV → Hp → List SB → Prop) : Prop :=
 tabX T t fun ti => match ti.k with
  | .slice e => tabX T e fun ei => zerosX ei.zero fun zs => repZ zs len fun cs => evP parts F fun ps => fillX G (.ar ei.size) cs ps fun cs' => allVal cs' fun ys => len * ei.size ≤ 16777216 ∧ pos ei.size
   ((∀ (g : Nat) (H' : Hp), H.Le H' → RdN H' (some ⟨g, 0, none⟩) 0 ys → K (pv (.slice (some ⟨g, 0, none⟩) len len)) H' G) ∨
    (ys.length = len * ei.size ∧ appG G (.row e ei.size len ys) fun G' j => K (.si (.ce (.self j))) H G'))
  | _ => False
theorem all2_rep {α β : Type} {R : α → β → Prop} {zs : List α} {ys : List β} (h : All2 R zs ys) : ∀ n, All2 R (List.replicate n zs).flatten (List.replicate n ys).flatten
 | 0 => .nil
 | n + 1 => by rw [List.replicate_succ, List.replicate_succ, List.flatten_cons, List.flatten_cons]; exact h.append (all2_rep h n)
theorem zeroCells_rep (z : Array Value) (n : Nat) : ((Array.range (n * z.size)).map (z[· % z.size]!)) = ((List.replicate n z.toList).flatten).toArray := by
 apply Array.ext'
 rw [Array.toList_map, Array.toList_range]
 simp only
 have key : ∀ n, (List.range (n * z.size)).map (fun i => z[i % z.size]!) = (List.replicate n z.toList).flatten := by
  intro n
  induction n with
  | zero => simp
  | succ n ih =>
   rw [List.replicate_succ', List.flatten_append, ← ih, Nat.succ_mul, List.range_add, List.map_append]
   congr 1
   simp only [List.flatten_cons, List.flatten_nil, List.append_nil, List.map_map]
   apply List.ext_getElem
   ·simp
   ·intro i h1 h2
    simp at h1
    simp [Nat.mod_eq_of_lt h1, h1]
 exact key n
theorem buildSliceX_ok {T : Tab} (hT : TabOk P T) {o : Oper} {t : TypeId} {len : Nat} {parts : Array (Nat × Operand)} (ho : o.op = .buildSlice t len parts) {F : Fr} {H : Hp} {G : List SB} {K : SV → Hp → List SB → Prop} {Kp : List PanicEntry → Hp → List SB → Prop}
  (h : buildSliceX T t len parts.toList F H G K) : LO P o F H G K Kp := by
 obtain ⟨ti, ht, h⟩ := tabX_ok hT h
 cases hk : ti.k with
 | slice e =>
  simp only [hk] at h
  obtain ⟨ei, he, h⟩ := tabX_ok hT h
  obtain ⟨zs, h, hz⟩ := zerosX_ok h
  have h := repZ_ok h
  obtain ⟨ps, h, hps⟩ := evP_ok h
  obtain ⟨cs', h, hfill⟩ := fillX_ok h
  obtain ⟨ys, ⟨hlim, h⟩, hys⟩ := allVal_ok h
  obtain ⟨hpos, h⟩ := pos_ok h
  intro w0 M hgd H0 ρ a w hs hf
  obtain ⟨i, z, hi, h1, h2, h3, h4⟩ := he.info
  obtain ⟨ys', hfl, hy'⟩ := hfill ρ H w _ _ hs.sw (all2_rep (hz ρ) len) (hps ρ a hf)
  obtain rfl := hys ρ ys' hy'
  have hzl : z.cells.size = ei.size := by rw [← Array.length_toList, h4, List.length_map, he.zlen]
  have hrun : (execOp a.eval o).run P w = .ok (.value (.slice (some ⟨w.heap.size, 0, none⟩) len len)) { w with heap := w.heap.push (.cells ys'.toArray e (0, 0)) } := by
   have hzz := zeroCells_rep z.cells len
   rw [hzl, h4] at hzz
   have hne : ¬ (16777216 < len * ei.size) := by omega
   have hfl' : Instr.fill (fun i => some (i * ei.size, ei.size)) ((List.replicate len (ei.zero.map Z.val)).flatten).toArray (parts.toList.map fun x => (x.fst, a.eval x.snd)) = some ys'.toArray := hfl
   by_cases hlen : len * ei.size = 0
   ·have hl0 : len = 0 := by
     rcases Nat.mul_eq_zero.1 hlen with h | h
     ·exact h
     ·exact absurd h hpos
    subst hl0
    have e0 : (Array.map (fun _ => (default : Value)) (Array.range 0)) = #[] := by simp
    simp only [List.replicate_zero, List.flatten_nil] at hfl'
    simp [execOp, ho, Instr.buildSlice, run_underlying (ht.slice hk), he.sizeOf w, newRow, newObj]
    rw [e0, hfl']
    rfl
   ·simp [execOp, ho, Instr.buildSlice, run_underlying (ht.slice hk), he.sizeOf w, hne, hlen, zeroValue, typeInfo, hi, h3, hzl, newRow, newObj]
    rw [hzz, hfl']
    rfl
  rw [hrun]
  rcases h with h | h
  ·refine ⟨_, ρ, H.put w.heap.size ys', G, hs.lay (Hp.put_le hs.fresh) ?_, .refl _, pv_is _ _, Hp.put_le hs.fresh, h w.heap.size _ (Hp.put_le hs.fresh) Hp.put_rd⟩
   intro b j v ev
   rcases Hp.put_inv ev with ev2 | ⟨rfl, ev2⟩
   ·exact .inl ev2
   ·refine .inr ⟨rfl, ?_⟩
    simp only [World.cell?, heap_push_new]
    simpa using ev2
  ·obtain ⟨hyl, h⟩ := h
   have h5 := appG_ok h
   refine ⟨_, ρ ++ [.slice (some ⟨w.heap.size, 0, none⟩) len len], H, _, hs.new (s := .row e ei.size len ys') ⟨hyl, .inr ⟨w.heap.size, 0, len, _, rfl, heap_push_new, by omega, by have := Nat.le_mul_of_pos_right len (Nat.pos_of_ne_zero hpos); simp only [maxLen]; omega, ?_, ?_⟩⟩ rfl, Pre.append _ _, ?_, .refl _, h5⟩
   ·simp [hyl]
   ·rw [List.drop_zero]; exact List.take_of_length_le (by simp [hyl])
   ·show (ρ ++ [_])[G.length]? = some _
    rw [List.getElem?_append_right (by rw [hs.len]; exact Nat.le_refl _)]
    simp [hs.len]
 | _ => simp only [hk] at h
end
end Go.Kx
namespace Go.Kx
open Go.RowKit Go.MapKept

open Classical in
noncomputable def updM (f : Value → Option Value) (k v : Value) : Value → Option Value := fun x => if x = k then some v else f x
open Classical in
noncomputable def delM (f : Value → Option Value) (k : Value) : Value → Option Value := fun x => if x = k then none else f x
theorem updM_self (f : Value → Option Value) (k v : Value) : updM f k v k = some v := by simp [updM]
theorem updM_ne (f : Value → Option Value) {k v x : Value} (h : x ≠ k) : updM f k v x = f x := by simp [updM, h]
theorem delM_self (f : Value → Option Value) (k : Value) : delM f k k = none := by simp [delM]
theorem delM_ne (f : Value → Option Value) {k x : Value} (h : x ≠ k) : delM f k x = f x := by simp [delM, h]
theorem MapIs.empty (d : TypeDesc) : MapIs d 0 (fun _ => none) #[] 0 := ⟨stamped_empty 0, by simp, rfl, by simp⟩
theorem MapIs.find {d : TypeDesc} {n : Nat} {f : Value → Option Value} {es : Array MapEntry} {clock : Nat} (h : MapIs d n f es clock) {k : Value} (hk : IsKey d k) :
  (Instr.findNow d k es.toList 0 = some none ∧ f k = none ∧ ∀ x ∈ es.toList, x.key ≠ k) ∨ ∃ j e, Instr.findNow d k es.toList 0 = some (some (j, e.val)) ∧ es[j]? = some e ∧ e.key = k ∧ f k = some e.val := by
 rcases findNow_spec hk es.toList 0 h.keys with ⟨h1, h2⟩ | ⟨j, e, h1, h2, h3⟩
 ·refine .inl ⟨h1, ?_, h2⟩
  cases hf : f k with
  | none => rfl
  | some v =>
   obtain ⟨x, hx, hxk, _⟩ := (h.is k v).1 hf
   exact absurd hxk (h2 x hx)
 ·refine .inr ⟨j, e, by simpa using h1, by simpa using h2, h3, (h.is k e.val).2 ⟨e, List.mem_of_getElem? h2, h3, rfl⟩⟩
theorem MapIs.push {d : TypeDesc} {n : Nat} {f : Value → Option Value} {es : Array MapEntry} {clock : Nat} (h : MapIs d n f es clock) {k v : Value} (hk : IsKey d k) (hno : ∀ x ∈ es.toList, x.key ≠ k) :
  MapIs d (n + 1) (updM f k v) (es.push { key := k, val := v, born := clock }) (clock + 1) := by
 refine ⟨stamped_push h.stamped hno, ?_, by simp [h.size], ?_⟩
 ·intro x hx
  simp only [Array.toList_push, List.mem_append, List.mem_singleton] at hx
  rcases hx with hx | rfl
  ·exact h.keys x hx
  ·exact hk
 ·intro k' v'
  by_cases e : k' = k
  ·subst e
   rw [updM_self]
   constructor
   ·intro e1; injection e1 with e1; subst e1
    exact ⟨{ key := k', val := v, born := clock }, by simp, rfl, rfl⟩
   ·rintro ⟨x, hx, hxk, hxv⟩
    simp only [Array.toList_push, List.mem_append, List.mem_singleton] at hx
    rcases hx with hx | rfl
    ·exact absurd hxk (hno x hx)
    ·rw [← hxv]
  ·rw [updM_ne _ e, h.is]
   constructor
   ·rintro ⟨x, hx, hxk, hxv⟩
    exact ⟨x, by simp only [Array.toList_push, List.mem_append]; exact .inl hx, hxk, hxv⟩
   ·rintro ⟨x, hx, hxk, hxv⟩
    simp only [Array.toList_push, List.mem_append, List.mem_singleton] at hx
    rcases hx with hx | rfl
    ·exact ⟨x, hx, hxk, hxv⟩
    ·exact absurd hxk.symm e
theorem MapIs.apart {d : TypeDesc} {n : Nat} {f : Value → Option Value} {es : Array MapEntry} {clock : Nat} (h : MapIs d n f es clock) {i j : Nat} {x y : MapEntry} (hi : es[i]? = some x) (hj : es[j]? = some y) (e : x.key = y.key) : i = j := by
 have hn := h.stamped.2.2
 have hi' : (es.toList.map (·.key))[i]? = some x.key := by simp [hi]
 have hj' : (es.toList.map (·.key))[j]? = some x.key := by simp [hj, e]
 exact (List.getElem?_inj (List.getElem?_eq_some_iff.1 hi').1 hn).1 (hi'.trans hj'.symm)
theorem MapIs.modify {d : TypeDesc} {n : Nat} {f : Value → Option Value} {es : Array MapEntry} {clock : Nat} (h : MapIs d n f es clock) {k v : Value} {j : Nat} {e : MapEntry} (hj : es[j]? = some e) (hek : e.key = k) :
  MapIs d n (updM f k v) (es.modify j fun e => { e with key := k, val := v }) clock := by
 have hkey : ∀ e', es[j]? = some e' → ({ e' with key := k, val := v } : MapEntry).key = e'.key := fun e' he' => by rw [hj] at he'; cases he'; exact hek.symm
 have hmem : ∀ x, x ∈ (es.modify j fun e => { e with key := k, val := v }).toList ↔ ∃ i y, es[i]? = some y ∧ x = if i = j then { y with key := k, val := v } else y := by
  intro x
  constructor
  ·intro hx
   obtain ⟨i, hi⟩ := List.mem_iff_getElem?.1 hx
   rw [Array.getElem?_toList, Array.getElem?_modify] at hi
   by_cases hij : j = i
   ·subst hij
    rw [if_pos rfl, hj] at hi
    simp at hi
    exact ⟨j, e, hj, by simp [hi]⟩
   ·rw [if_neg hij] at hi
    exact ⟨i, x, hi, by rw [if_neg (Ne.symm hij)]⟩
  ·rintro ⟨i, y, hy, rfl⟩
   refine List.mem_iff_getElem?.2 ⟨i, ?_⟩
   rw [Array.getElem?_toList, Array.getElem?_modify]
   by_cases hij : j = i
   ·subst hij; simp [hy]
   ·rw [if_neg hij, if_neg (Ne.symm hij)]; exact hy
 refine ⟨stamped_modify h.stamped _ _ (fun _ _ => rfl) (fun e' _ he' => hkey e' he'), isKey_modify h.keys _ _ hkey, by simp [h.size], ?_⟩
 intro k' v'
 by_cases ek : k' = k
 ·subst ek
  rw [updM_self]
  constructor
  ·intro e1; injection e1 with e1; subst e1
   exact ⟨_, (hmem _).2 ⟨j, e, hj, by rw [if_pos rfl]⟩, rfl, rfl⟩
  ·rintro ⟨x, hx, hxk, hxv⟩
   obtain ⟨i, y, hy, rfl⟩ := (hmem x).1 hx
   by_cases hij : i = j
   ·rw [if_pos hij] at hxv; rw [← hxv]
   ·rw [if_neg hij] at hxk
    exact absurd (h.apart hy hj (hxk.trans hek.symm)) hij
 ·rw [updM_ne _ ek, h.is]
  constructor
  ·rintro ⟨x, hx, hxk, hxv⟩
   obtain ⟨i, hi⟩ := List.mem_iff_getElem?.1 hx
   have hi' : es[i]? = some x := by simpa using hi
   have hij : i ≠ j := fun e1 => by
    subst e1; rw [hj] at hi'; injection hi' with hi'; subst hi'
    exact ek (hxk.symm.trans hek)
   exact ⟨x, (hmem x).2 ⟨i, x, hi', by rw [if_neg hij]⟩, hxk, hxv⟩
  ·rintro ⟨x, hx, hxk, hxv⟩
   obtain ⟨i, y, hy, rfl⟩ := (hmem x).1 hx
   by_cases hij : i = j
   ·rw [if_pos hij] at hxk; exact absurd hxk.symm ek
   ·rw [if_neg hij] at hxk hxv
    exact ⟨y, List.mem_iff_getElem?.2 ⟨i, by simpa using hy⟩, hxk, hxv⟩
theorem MapIs.erase {d : TypeDesc} {n : Nat} {f : Value → Option Value} {es : Array MapEntry} {clock : Nat} (h : MapIs d n f es clock) {k : Value} {j : Nat} {e : MapEntry} (hj : es[j]? = some e) (hek : e.key = k) :
  MapIs d (n - 1) (delM f k) (es.eraseIdxIfInBounds j) clock := by
 have hjl : j < es.size := (Array.getElem?_eq_some_iff.1 hj).1
 have htl : (es.eraseIdxIfInBounds j).toList = es.toList.eraseIdx j := by
  unfold Array.eraseIdxIfInBounds
  rw [dif_pos hjl, Array.toList_eraseIdx]
 have hmem : ∀ x, x ∈ (es.eraseIdxIfInBounds j).toList ↔ ∃ i, i ≠ j ∧ es[i]? = some x := by
  intro x
  rw [htl, List.mem_iff_getElem?]
  constructor
  ·rintro ⟨i, hi⟩
   rw [List.getElem?_eraseIdx] at hi
   split at hi
   ·exact ⟨i, by omega, by simpa using hi⟩
   ·exact ⟨i + 1, by omega, by simpa using hi⟩
  ·rintro ⟨i, hne, hi⟩
   rcases Nat.lt_or_ge i j with h1 | h1
   ·exact ⟨i, by rw [List.getElem?_eraseIdx, if_pos h1]; simpa using hi⟩
   ·refine ⟨i - 1, ?_⟩
    rw [List.getElem?_eraseIdx, if_neg (by omega), show i - 1 + 1 = i by omega]
    simpa using hi
 refine ⟨stamped_erase h.stamped j, ?_, ?_, ?_⟩
 ·intro x hx
  obtain ⟨i, _, hi⟩ := (hmem x).1 hx
  exact h.keys x (List.mem_iff_getElem?.2 ⟨i, by simpa using hi⟩)
 ·rw [← Array.length_toList, htl, List.length_eraseIdx, if_pos (by simpa using hjl), Array.length_toList, h.size]
 ·intro k' v'
  by_cases ek : k' = k
  ·subst ek
   rw [delM_self]
   constructor
   ·intro e1; cases e1
   ·rintro ⟨x, hx, hxk, hxv⟩
    obtain ⟨i, hne, hi⟩ := (hmem x).1 hx
    exact absurd (h.apart hi hj (hxk.trans hek.symm)) hne
  ·rw [delM_ne _ ek, h.is]
   constructor
   ·rintro ⟨x, hx, hxk, hxv⟩
    obtain ⟨i, hi⟩ := List.mem_iff_getElem?.1 hx
    have hi' : es[i]? = some x := by simpa using hi
    refine ⟨x, (hmem x).2 ⟨i, fun e1 => ?_, hi'⟩, hxk, hxv⟩
    subst e1; rw [hj] at hi'; injection hi' with hi'; subst hi'
    exact ek (hxk.symm.trans hek)
   ·rintro ⟨x, hx, hxk, hxv⟩
    obtain ⟨i, _, hi⟩ := (hmem x).1 hx
    exact ⟨x, List.mem_iff_getElem?.2 ⟨i, by simpa using hi⟩, hxk, hxv⟩

def keyX (k : TK) (sk : SV) (K : TypeDesc → Value → Prop) : Prop :=
 match sk with
 | .si (.ce (.val v)) => match v with
  | .int q a => match k with
   | .int q' => match decide (q = q') with
    | true => K (.int q) (.int q a)
    | false => False
   | _ => False
  | .string s => match k with
   | .string => K .string (.string s)
   | _ => False
  | .bool b => match k with
   | .bool => K .bool (.bool b)
   | _ => False
  | _ => False
 | _ => False
def sameD (d' d : TypeDesc) (K : Prop) : Prop :=
 match d', d with
 | .int q, .int q' => match decide (q = q') with
  | true => K
  | false => False
 | .string, .string => K
 | .bool, .bool => K
 | _, _ => False
theorem sameD_ok {d' d : TypeDesc} {K : Prop} (h : sameD d' d K) : d' = d ∧ K := by
 unfold sameD at h
 split at h
 ·split at h
  ·rename_i hq
   exact ⟨by rw [of_decide_eq_true hq], h⟩
  ·exact h.elim
 ·exact ⟨rfl, h⟩
 ·exact ⟨rfl, h⟩
 ·exact h.elim
def mapX (sm : SV) (d : TypeDesc) (G : List SB) (K : Option Nat → Nat → (Value → Option Value) → Prop) : Prop :=
 match sm with
 | .si (.ce (.self k)) => getG G k fun s => match s with
  | .map d' n f => sameD d' d (K (some k) n f)
  | _ => False
 | .si (.ce (.val (.map none))) => K none 0 fun _ => none
 | _ => False
def zeroX (ti : TI) (K : SV → Prop) : Prop :=
 zerosX ti.zero fun cs => match ti.agg with
  | true => K (.si (.ag cs))
  | false => match cs with
   | [c] => K (.si (.ce c))
   | _ => False
section
variable {P : Program}
theorem keyX_ok {t : TypeId} {ti : TI} (ht : TOk P t ti) {sk : SV} {K : TypeDesc → Value → Prop} (h : keyX ti.k sk K) : ∃ d v, K d v ∧ P.underlying t = some d ∧ IsKey d v ∧ ∀ ρ y, sk.Is ρ y → y = v := by
 unfold keyX at h
 split at h
 ·rename_i v
  split at h
  ·rename_i q a
   split at h
   ·rename_i q' hk
    split at h
    ·rename_i hq
     have hq := of_decide_eq_true hq
     subst hq
     exact ⟨_, _, h, ht.int hk, rfl, fun _ _ e => e⟩
    ·exact h.elim
   ·exact h.elim
  ·split at h
   ·rename_i hk; exact ⟨_, _, h, ht.string hk, trivial, fun _ _ e => e⟩
   ·exact h.elim
  ·split at h
   ·rename_i hk; exact ⟨_, _, h, ht.bool hk, trivial, fun _ _ e => e⟩
   ·exact h.elim
  ·exact h.elim
 ·exact h.elim
theorem mapX_ok {sm : SV} {d : TypeDesc} {G : List SB} {K : Option Nat → Nat → (Value → Option Value) → Prop} (h : mapX sm d G K) :
  (∃ k n f, sm = .si (.ce (.self k)) ∧ G[k]? = some (.map d n f) ∧ K (some k) n f) ∨ (sm = .si (.ce (.val (.map none))) ∧ K none 0 fun _ => none) := by
 unfold mapX at h
 split at h
 ·rename_i k
  obtain ⟨s, hs, h⟩ := getG_ok h
  split at h
  ·obtain ⟨e1, h'⟩ := sameD_ok h
   subst e1
   exact .inl ⟨_, _, _, rfl, hs, h'⟩
  ·exact h.elim
 ·exact .inr ⟨rfl, h⟩
 ·exact h.elim
theorem zeroX_ok {t : TypeId} {ti : TI} (ht : TOk P t ti) {K : SV → Prop} (h : zeroX ti K) : ∃ sv z, K sv ∧ (∀ ρ, sv.Is ρ z) ∧ ∀ w, (zeroValue t).run P w = .ok z w := by
 obtain ⟨cs, h, hc⟩ := zerosX_ok h
 obtain ⟨z, hz, hzc, ha⟩ := ht.zeroVal
 cases hag : ti.agg with
 | true =>
  simp only [hag] at h
  rw [hag] at ha
  cases z <;> simp [isAggV] at ha
  rename_i xs
  refine ⟨_, _, h, fun ρ => ⟨xs.toList, rfl, ?_⟩, hz⟩
  have : xs.toList = ti.zero.map Z.val := hzc
  rw [this]; exact hc ρ
 | false =>
  simp only [hag] at h
  rw [hag] at ha
  split at h
  ·rename_i c
   refine ⟨_, z, h, fun ρ => ?_, hz⟩
   have h1 := hc ρ
   rw [← hzc] at h1
   have h2 : z.cells.toList = [z] := by
    cases z <;> first | rfl | (simp [isAggV] at ha)
   rw [h2] at h1
   cases h1 with | cons h3 _ => exact h3
  ·exact h.elim

def lookX (T : Tab) (t : TypeId) (sm sk : SV) (ok : Bool) (G : List SB) (K : SV → Prop) : Prop :=
 tabX T t fun ti => match ti.k with
  | .map kt et => tabX T kt fun ki => tabX T et fun ei => keyX ki.k sk fun d kv => mapX sm d G fun _ _ f => ∃ r, f kv = r ∧ match r with
   | none => zeroX ei fun sv => fin ok sv false K
   | some v => constX v fun sv => fin ok sv true K
  | _ => False
where fin (ok : Bool) (sv : SV) (b : Bool) (K : SV → Prop) : Prop :=
 match ok with
 | false => K sv
 | true => match sv with
  | .si g => K (.tu [g, .ce (.val (.bool b))])
  | _ => False
theorem lookX_fin {ok : Bool} {sv : SV} {b : Bool} {K : SV → Prop} (h : lookX.fin ok sv b K) : ∃ s, K s ∧ ∀ ρ v, sv.Is ρ v → s.Is ρ (if ok then .tuple #[v, .bool b] else v) := by
 unfold lookX.fin at h
 split at h
 ·exact ⟨_, h, fun ρ v hv => hv⟩
 ·split at h
  ·exact ⟨_, h, fun ρ v hv => ⟨[v, .bool b], rfl, .cons hv (.cons rfl .nil)⟩⟩
  ·exact h.elim
theorem lookX_ok {T : Tab} (hT : TabOk P T) {o : Oper} {t : TypeId} {m k : Operand} {ok : Bool} (ho : o.op = .lookup t m k ok) {F : Fr} {H : Hp} {G : List SB} {K : SV → Prop}
  (h : evX m F fun sm => evX k F fun sk => lookX T t sm sk ok G K) : QO P o F H G K := by
 obtain ⟨sm, h, hm⟩ := evX_ok h
 obtain ⟨sk, h, hk⟩ := evX_ok h
 obtain ⟨ti, ht, h⟩ := tabX_ok hT h
 cases htk : ti.k with
 | map kt et =>
  simp only [htk] at h
  obtain ⟨ki, hki, h⟩ := tabX_ok hT h
  obtain ⟨ei, hei, h⟩ := tabX_ok hT h
  obtain ⟨d, kv, h, hd, hkey, hkv⟩ := keyX_ok hki h
  -- the run, out of what the entries are
  have run : ∀ (a : Act) (w : World) (es : Array MapEntry) (n : Nat) (f : Value → Option Value) (clock : Nat) (z : Value), MapIs d n f es clock → (∀ w, (zeroValue et).run P w = .ok z w) → a.eval k = kv →
    ((∃ g, a.eval m = .map (some g) ∧ w.heap[g]? = some (.map es clock)) ∨ (a.eval m = .map none ∧ es = #[])) →
    (execOp a.eval o).run P w = .ok (.value (if ok then .tuple #[(f kv).getD z, .bool (f kv).isSome] else (f kv).getD z)) w := by
   intro a w es n f clock z hmi hz hk1 hm1
   rcases hmi.find hkey with ⟨h1, h2, _⟩ | ⟨j, e, h1, _, _, h2⟩
   ·rcases hm1 with ⟨g, hg, hh⟩ | ⟨hg, rfl⟩
    ·simp [execOp, ho, Instr.lookup, run_underlying (ht.map htk), hg, hk1, MapKept.run_getObj_map hh, MapKept.run_checkKey hd hkey, MapKept.run_findKey hd h1, Result.andThen, hz, h2]
    ·simp [execOp, ho, Instr.lookup, run_underlying (ht.map htk), hg, hk1, MapKept.run_checkKey hd hkey, MapKept.run_findKey (l := []) hd (by simpa using h1), Result.andThen, hz, h2]
   ·rcases hm1 with ⟨g, hg, hh⟩ | ⟨hg, rfl⟩
    ·simp [execOp, ho, Instr.lookup, run_underlying (ht.map htk), hg, hk1, MapKept.run_getObj_map hh, MapKept.run_checkKey hd hkey, MapKept.run_findKey hd h1, Result.andThen, h2]
    ·simp [Instr.findNow] at h1
  have body : ∀ (n : Nat) (f : Value → Option Value), (∃ r, f kv = r ∧ match r with
    | none => zeroX ei fun sv => lookX.fin ok sv false K
    | some v => constX v fun sv => lookX.fin ok sv true K) → (∀ (ρ : List Value) (a : Act) (wc : World), FOk ρ F a.tmps → Sw ρ H G wc → ∀ w, Sw ρ H G w →
     ∃ es clock, MapIs d n f es clock ∧ ((∃ g, a.eval m = .map (some g) ∧ w.heap[g]? = some (.map es clock)) ∨ (a.eval m = .map none ∧ es = #[]))) → QO P o F H G K := by
   intro n f ⟨r, hr, h⟩ hmm
   obtain ⟨z, hz, _⟩ := hei.zeroVal
   cases r with
   | none =>
    obtain ⟨sv, z', h, hsv, hz'⟩ := zeroX_ok hei h
    obtain ⟨s, h, hs⟩ := lookX_fin h
    refine ⟨s, h, fun ρ a wc hf hw => ⟨_, hs ρ _ (hsv ρ), fun w hw' => ?_⟩⟩
    obtain ⟨es, clock, hmi, hg⟩ := hmm ρ a wc hf hw w hw'
    rw [run a w es n f clock z' hmi hz' (hkv ρ _ (hk ρ a hf)) hg, hr]; rfl
   | some v =>
    obtain ⟨sv, h, hsv⟩ := constX_ok h
    obtain ⟨s, h, hs⟩ := lookX_fin h
    refine ⟨s, h, fun ρ a wc hf hw => ⟨_, hs ρ _ (hsv ρ), fun w hw' => ?_⟩⟩
    obtain ⟨es, clock, hmi, hg⟩ := hmm ρ a wc hf hw w hw'
    rw [run a w es n f clock z hmi hz (hkv ρ _ (hk ρ a hf)) hg, hr]; rfl
  rcases mapX_ok h with ⟨b, n, f, e0, hb, h'⟩ | ⟨e0, h'⟩ <;> subst e0
  ·refine body n f h' fun ρ a wc hf hw w hw' => ?_
   obtain ⟨g, es, clock, e1, hh, hmi⟩ := hw'.ok b _ (a.eval m) hb (hm ρ a hf)
   exact ⟨es, clock, hmi, .inl ⟨g, e1, hh⟩⟩
  ·exact body 0 _ h' fun ρ a wc hf hw w hw' => ⟨#[], 0, .empty d, .inr ⟨hm ρ a hf, rfl⟩⟩
 | _ => simp only [htk] at h

theorem getX_mono {F : Fr} {i : Nat} {K K' : SV → Prop} (hk : ∀ sv, K sv → K' sv) (h : getX F i K) : getX F i K' := by
 induction F with
 | nil => exact h.elim
 | cons x r ih =>
  obtain ⟨j, v⟩ := x
  unfold getX at h ⊢
  split
  ·rename_i e; rw [e] at h; exact hk _ h
  ·rename_i e; rw [e] at h; exact ih h
theorem valsX_mono : ∀ {l : List Value} {K K' : List SC → Prop} (_ : ∀ c, K c → K' c) (_ : valsX l K), valsX l K'
 | [], _, _, hk, h => hk _ h
 | _ :: r, _, _, hk, h => valsX_mono (l := r) (fun _ => hk _) h
theorem evX_mono {x : Operand} {F : Fr} {K K' : SV → Prop} (hk : ∀ sv, K sv → K' sv) (h : evX x F K) : evX x F K' := by
 cases x with
 | tmp t => exact getX_mono hk h
 | const v =>
  unfold evX constX at h ⊢
  cases v <;> first | exact hk _ h | exact valsX_mono (fun _ => hk _) h
 | global g => exact hk _ h
 | func f => exact hk _ h
def orEnt (sm : SV) (G : List SB) (A B : Prop) : Prop :=
 match sm with
 | .si (.ce (.self k)) => getG G k fun s => match s with
  | .ent _ _ _ => A
  | _ => B
 | _ => B
theorem orEnt_ok {sm : SV} {G : List SB} {A B : Prop} (h : orEnt sm G A B) : A ∨ B := by
 unfold orEnt at h
 split at h
 ·obtain ⟨s, _, h⟩ := getG_ok h
  split at h
  ·exact .inl h
  ·exact .inr h
 ·exact .inr h
def orPtr (sv : SV) (A B : Prop) : Prop :=
 match sv with
 | .si (.ce (.ptr _ _)) => A
 | _ => B
theorem orPtr_ok {sv : SV} {A B : Prop} (h : orPtr sv A B) : A ∨ B := by
 unfold orPtr at h
 split at h
 ·exact .inl h
 ·exact .inr h
theorem look2_ok {T : Tab} (hT : TabOk P T) {o : Oper} {t : TypeId} {m k : Operand} {ok : Bool} (ho : o.op = .lookup t m k ok) {F : Fr} {H : Hp} {G : List SB} {K : SV → Hp → List SB → Prop} {Kp : List PanicEntry → Hp → List SB → Prop}
  (h : evX m F fun sm => evX k F fun sk => orEnt sm G (LO P o F H G K Kp) (lookX T t sm sk ok G fun sv => K sv H G)) : LO P o F H G K Kp := by
 by_cases hl : LO P o F H G K Kp
 ·exact hl
 exact LO.of_quiet (lookX_ok hT ho (evX_mono (fun sm h => evX_mono (fun sk h => (orEnt_ok h).resolve_left hl) h) h))

def makeMapX (T : Tab) (t : TypeId) (G : List SB) (K : SV → List SB → Prop) : Prop :=
 tabX T t fun ti => match ti.k with
  | .map kt _ => tabX T kt fun ki => kdX ki.k fun d => appG G (.map d 0 fun _ => none) fun G' n => K (.si (.ce (.self n))) G'
  | _ => False
where kdX (k : TK) (K : TypeDesc → Prop) : Prop :=
 match k with
 | .int q => K (.int q)
 | .string => K .string
 | .bool => K .bool
 | _ => False
theorem makeMapX_ok {T : Tab} (hT : TabOk P T) {o : Oper} {t : TypeId} (ho : o.op = .makeMap t none) {F : Fr} {H : Hp} {G : List SB} {K : SV → Hp → List SB → Prop} {Kp : List PanicEntry → Hp → List SB → Prop} (h : makeMapX T t G fun sv G' => K sv H G') : LO P o F H G K Kp := by
 obtain ⟨ti, ht, h⟩ := tabX_ok hT h
 cases htk : ti.k with
 | map kt et =>
  simp only [htk] at h
  obtain ⟨ki, hki, h⟩ := tabX_ok hT h
  have h' : ∃ d, appG G (.map d 0 fun _ => none) fun G' n => K (.si (.ce (.self n))) H G' := by
   unfold makeMapX.kdX at h
   split at h <;> first | exact ⟨_, h⟩ | exact h.elim
  obtain ⟨d, h⟩ := h'
  have h := appG_ok h
  intro w0 M hgd H0 ρ a w hs hf
  have hrun : (execOp a.eval o).run P w = .ok (.value (.map (some w.heap.size))) { w with heap := w.heap.push (.map #[] 0) } := by
   simp [execOp, ho, Instr.makeMap, newObj, Sem.run]
  rw [hrun]
  refine ⟨_, ρ ++ [.map (some w.heap.size)], H, _, hs.new (s := .map d 0 fun _ => none) ⟨_, #[], 0, rfl, heap_push_new, .empty d⟩ rfl, Pre.append _ _, ?_, .refl _, h⟩
  show (ρ ++ [Value.map (some w.heap.size)])[G.length]? = some _
  rw [List.getElem?_append_right (by rw [hs.len]; exact Nat.le_refl _)]
  simp [hs.len]
 | _ => simp only [htk] at h

def oneVal (sv : SV) (K : Value → Prop) : Prop :=
 match sv with
 | .si (.ce (.val v)) => K v
 | .si (.ag l) => allVal l fun vs => K (.agg vs.toArray)
 | _ => False
theorem oneVal_ok {sv : SV} {K : Value → Prop} (h : oneVal sv K) : ∃ v, K v ∧ ∀ ρ y, sv.Is ρ y → y = v := by
 unfold oneVal at h
 split at h
 ·exact ⟨_, h, fun _ _ e => e⟩
 ·obtain ⟨vs, h, hv⟩ := allVal_ok h
  exact ⟨_, h, fun ρ y ⟨ys, e, hy⟩ => by rw [e, hv ρ ys hy]⟩
 ·exact h.elim
def updX (T : Tab) (t : TypeId) (sm sk sv : SV) (G : List SB) (K : List SB → Prop) : Prop :=
 tabX T t fun ti => match ti.k with
  | .map kt _ => tabX T kt fun ki => keyX ki.k sk fun d kv => oneVal sv fun v => mapX sm d G fun b n f => match b with
   | some b => (f kv = none → setG G b (.map d (n + 1) (updM f kv v)) K) ∧ (f kv ≠ none → setG G b (.map d n (updM f kv v)) K)
   | none => False
  | _ => False
theorem updX_ok {T : Tab} (hT : TabOk P T) {o : Oper} {t : TypeId} {m k x : Operand} (ho : o.op = .mapUpdate t m k x) {F : Fr} {H : Hp} {G : List SB} {K : SV → Hp → List SB → Prop} {Kp : List PanicEntry → Hp → List SB → Prop}
  (h : evX m F fun sm => evX k F fun sk => evX x F fun sv => updX T t sm sk sv G fun G' => K (pv undef) H G') : LO P o F H G K Kp := by
 obtain ⟨sm, h, hm⟩ := evX_ok h
 obtain ⟨sk, h, hk⟩ := evX_ok h
 obtain ⟨sv, h, hx⟩ := evX_ok h
 obtain ⟨ti, ht, h⟩ := tabX_ok hT h
 cases htk : ti.k with
 | map kt et =>
  simp only [htk] at h
  obtain ⟨ki, hki, h⟩ := tabX_ok hT h
  obtain ⟨d, kv, h, hd, hkey, hkv⟩ := keyX_ok hki h
  obtain ⟨v, h, hv⟩ := oneVal_ok h
  rcases mapX_ok h with ⟨b, n, f, e0, hb, h1, h2⟩ | ⟨e0, h'⟩ <;> subst e0
  ·intro w0 M hgd H0 ρ a w hs hf
   have hρ := hm ρ a hf
   obtain ⟨g, es, clock, e1, hh, hmi⟩ := hs.ok b _ (a.eval m) hb hρ
   have e2 := hkv ρ _ (hk ρ a hf)
   have e3 := hv ρ _ (hx ρ a hf)
   have fin : ∀ (es' : Array MapEntry) (clock' n' : Nat), (execOp a.eval o).run P w = .ok .skip { w with heap := w.heap.setIfInBounds g (.map es' clock') } → MapIs d n' (updM f kv v) es' clock' → K (pv undef) H (G.set b (.map d n' (updM f kv v))) →
     Out P (fun v w' => ∃ sv ρ' H' G', St w0 M H0 ρ' H' G' w' ∧ Pre ρ ρ' ∧ sv.Is ρ' v ∧ H.Le H' ∧ K sv H' G') (fun ch w' => ∃ ρ' H' G', St w0 M H0 ρ' H' G' w' ∧ Pre ρ ρ' ∧ H.Le H' ∧ Kp ch H' G') ((execOp a.eval o).run P w) := by
    intro es' clock' n' hrun hmi' hK
    rw [hrun]
    refine ⟨_, ρ, H, _, hs.turn (g := g) hb hρ (by rw [e1]; rfl) rfl rfl rfl (by simp) (fun j _ hne => (heap_set hh).2 j hne) (s' := .map d n' (updM f kv v)) ⟨g, es', clock', e1, (heap_set hh).1, hmi'⟩ (.inl (by rw [e1]; rfl)), .refl _, pv_is _ _, .refl _, hK⟩
   rcases hmi.find hkey with ⟨h3, h4, h5⟩ | ⟨j, e, h3, h4, h5, h6⟩
   ·refine fin _ _ (n + 1) ?_ (hmi.push hkey h5) (setG_ok (h1 h4)).2
    simp [execOp, ho, Instr.mapUpdate, run_underlying (ht.map htk), e1, e2, e3, MapKept.run_getObj_map hh, MapKept.run_checkKey hd hkey, MapKept.run_findKey hd h3, MapKept.run_setObj_map _ hh, Result.andThen]
   ·refine fin _ _ n ?_ (hmi.modify h4 h5) (setG_ok (h2 (by rw [h6]; simp))).2
    simp [execOp, ho, Instr.mapUpdate, run_underlying (ht.map htk), e1, e2, e3, MapKept.run_getObj_map hh, MapKept.run_checkKey hd hkey, MapKept.run_findKey hd h3, h4, h5, run_keyThatStays hkey, MapKept.run_setObj_map _ hh, Result.andThen]
  ·exact h'.elim
 | _ => simp only [htk] at h

theorem upd2_ok {T : Tab} (hT : TabOk P T) {o : Oper} {t : TypeId} {m k x : Operand} (ho : o.op = .mapUpdate t m k x) {F : Fr} {H : Hp} {G : List SB} {K : SV → Hp → List SB → Prop} {Kp : List PanicEntry → Hp → List SB → Prop}
  (h : evX m F fun sm => evX k F fun sk => evX x F fun sv => orPtr sv (LO P o F H G K Kp) (updX T t sm sk sv G fun G' => K (pv undef) H G')) : LO P o F H G K Kp := by
 by_cases hl : LO P o F H G K Kp
 ·exact hl
 exact updX_ok hT ho (evX_mono (fun sm h => evX_mono (fun sk h => evX_mono (fun sv h => (orPtr_ok h).resolve_left hl) h) h) h)

def delX (T : Tab) (t : TypeId) (sm sk : SV) (G : List SB) (K : List SB → Prop) : Prop :=
 tabX T t fun ti => match ti.k with
  | .map kt _ => tabX T kt fun ki => keyX ki.k sk fun d kv => mapX sm d G fun b n f => match b with
   | some b => (f kv = none → setG G b (.map d n (delM f kv)) K) ∧ (f kv ≠ none → setG G b (.map d (n - 1) (delM f kv)) K)
   | none => K G
  | _ => False
theorem delX_ok {T : Tab} (hT : TabOk P T) {o : Oper} {t kt0 : TypeId} {m k : Operand} (ho : o.op = .call ⟨.builtin .delete, #[m, k], #[t, kt0]⟩) {F : Fr} {H : Hp} {G : List SB} {K : SV → Hp → List SB → Prop} {Kp : List PanicEntry → Hp → List SB → Prop}
  (h : evX m F fun sm => evX k F fun sk => delX T t sm sk G fun G' => K (.tu []) H G') : LO P o F H G K Kp := by
 obtain ⟨sm, h, hm⟩ := evX_ok h
 obtain ⟨sk, h, hk⟩ := evX_ok h
 obtain ⟨ti, ht, h⟩ := tabX_ok hT h
 cases htk : ti.k with
 | map kt et =>
  simp only [htk] at h
  obtain ⟨ki, hki, h⟩ := tabX_ok hT h
  obtain ⟨d, kv, h, hd, hkey, hkv⟩ := keyX_ok hki h
  have b1 : ∀ (a : Act), (#[m, k] : Array Operand).map a.eval = #[a.eval m, a.eval k] := fun a => by simp
  rcases mapX_ok h with ⟨b, n, f, e0, hb, h1, h2⟩ | ⟨e0, h'⟩ <;> subst e0
  ·intro w0 M hgd H0 ρ a w hs hf
   have hρ := hm ρ a hf
   obtain ⟨g, es, clock, e1, hh, hmi⟩ := hs.ok b _ (a.eval m) hb hρ
   have e2 := hkv ρ _ (hk ρ a hf)
   have fin : ∀ (es' : Array MapEntry) (n' : Nat), (execOp a.eval o).run P w = .ok (.value (.tuple #[])) { w with heap := w.heap.setIfInBounds g (.map es' clock) } → MapIs d n' (delM f kv) es' clock → K (.tu []) H (G.set b (.map d n' (delM f kv))) →
     Out P (fun v w' => ∃ sv ρ' H' G', St w0 M H0 ρ' H' G' w' ∧ Pre ρ ρ' ∧ sv.Is ρ' v ∧ H.Le H' ∧ K sv H' G') (fun ch w' => ∃ ρ' H' G', St w0 M H0 ρ' H' G' w' ∧ Pre ρ ρ' ∧ H.Le H' ∧ Kp ch H' G') ((execOp a.eval o).run P w) := by
    intro es' n' hrun hmi' hK
    rw [hrun]
    refine ⟨.tu [], ρ, H, _, hs.turn (g := g) hb hρ (by rw [e1]; rfl) rfl rfl rfl (by simp) (fun j _ hne => (heap_set hh).2 j hne) (s' := .map d n' (delM f kv)) ⟨g, es', clock, e1, (heap_set hh).1, hmi'⟩ (.inl (by rw [e1]; rfl)), .refl _, ⟨[], rfl, .nil⟩, .refl _, hK⟩
   rcases hmi.find hkey with ⟨h3, h4, h5⟩ | ⟨j, e, h3, h4, h5, h6⟩
   ·refine fin es n ?_ ?_ (setG_ok (h1 h4)).2
    ·simp [execOp, ho, resolve, b1, e1, e2, invoke, builtin, Builtin.delete_, run_underlying (ht.map htk), MapKept.run_getObj_map hh, MapKept.run_checkKey hd hkey, MapKept.run_findKey hd h3, MapKept.run_setObj_map _ hh, Result.andThen]
    ·have e : delM f kv = f := by
      funext x
      by_cases hx : x = kv
      ·rw [hx, delM_self, h4]
      ·rw [delM_ne _ hx]
     rw [e]; exact hmi
   ·refine fin _ (n - 1) ?_ (hmi.erase h4 h5) (setG_ok (h2 (by rw [h6]; simp))).2
    simp [execOp, ho, resolve, b1, e1, e2, invoke, builtin, Builtin.delete_, run_underlying (ht.map htk), MapKept.run_getObj_map hh, MapKept.run_checkKey hd hkey, MapKept.run_findKey hd h3, MapKept.run_setObj_map _ hh, Result.andThen]
  ·intro w0 M hgd H0 ρ a w hs hf
   have e1 : a.eval m = .map none := hm ρ a hf
   have e2 := hkv ρ _ (hk ρ a hf)
   have hrun : (execOp a.eval o).run P w = .ok (.value (.tuple #[])) w := by
    simp [execOp, ho, resolve, b1, e1, e2, invoke, builtin, Builtin.delete_, run_underlying (ht.map htk), MapKept.run_checkKey hd hkey, Result.andThen]
   rw [hrun]
   exact ⟨.tu [], ρ, H, G, hs, .refl _, ⟨[], rfl, .nil⟩, .refl _, h'⟩
 | _ => simp only [htk] at h
end
end Go.Kx
