/- Quiet operations, whole: one function over all kinds, and that what it tells is so. Generic in the program; no condition of its own. -/
import Derived.Test.YtfchdibbjaeocaaDoorK3
namespace Go.Kx
open Go.RowKit

/-- A quiet operation leaves what sv stands for, in whatever world meets the state, and turns nothing. -/
def QO (P : Program) (o : Oper) (F : Fr) (H : Hp) (G : List SB) (K : SV → Prop) : Prop :=
  ∃ sv, K sv ∧ ∀ (ρ : List Value) (a : Act) (wc : World), FOk ρ F a.tmps → Sw ρ H G wc → ∃ v, sv.Is ρ v ∧ ∀ w, Sw ρ H G w → (execOp a.eval o).run P w = .ok (.value v) w

def minB (x y : Int) : Int := if y < x then y else x
def maxB (x y : Int) : Int := if y > x then y else x

/-- The cells of a cell list that are sure. -/
def SC.sure : SC → Bool
  | .any => false
  | _ => true
theorem SC.Is.uniq {ρ : List Value} {c : SC} (hs : c.sure = true) {y z : Value} (h : c.Is ρ y) (h' : c.Is ρ z) : y = z := by
  cases c with
  | val x => exact h.trans h'.symm
  | ptr k off =>
    obtain ⟨r, h1, h2⟩ := h
    obtain ⟨r', h3, h4⟩ := h'
    rw [h1] at h3; injection h3 with h3; subst h3
    rw [h2] at h4; injection h4
  | self k => have h1 : ρ[k]? = some y := h; have h2 : ρ[k]? = some z := h'; rw [h1] at h2; injection h2
  | fn f n caps =>
    obtain ⟨ys, rfl, h2⟩ := h
    obtain ⟨zs, rfl, h4⟩ := h'
    suffices h : ys = zs by rw [h]
    clear hs
    induction h2 generalizing zs with
    | nil => cases h4; rfl
    | cons h5 _ ih =>
      cases h4 with | cons h6 h7 =>
        obtain ⟨r, e1, e2⟩ := h5
        obtain ⟨r', e3, e4⟩ := h6
        rw [e1] at e3; injection e3 with e3; subst e3
        rw [e2] at e4; injection e4 with e4; subst e4
        rw [ih _ h7]
  | pp A off => exact h.trans h'.symm
  | any => cases hs
theorem all2_uniq {ρ : List Value} {cs : List SC} (hs : cs.all SC.sure = true) {ys zs : List Value} (h : All2 (SC.Is ρ) cs ys) (h' : All2 (SC.Is ρ) cs zs) : ys = zs := by
  induction h generalizing zs with
  | nil => cases h'; rfl
  | cons h1 _ ih =>
    simp only [List.all_cons, Bool.and_eq_true] at hs
    cases h' with | cons h2 h3 => rw [h1.uniq hs.1 h2, ih hs.2 h3]
def sureX (c : SC) (K : Prop) : Prop :=
  match c with
  | .any => False
  | _ => K
theorem sureX_ok {c : SC} {K : Prop} (h : sureX c K) : c.sure = true ∧ K := by unfold sureX at h; split at h <;> first | exact h.elim | (refine ⟨?_, h⟩; cases c <;> first | rfl | simp_all)
def sureL : List SC → Prop → Prop
  | [], K => K
  | c :: r, K => sureX c (sureL r K)
theorem sureL_ok {l : List SC} {K : Prop} (h : sureL l K) : l.all SC.sure = true ∧ K := by
  induction l with
  | nil => exact ⟨rfl, h⟩
  | cons c r ih => obtain ⟨h1, h2⟩ := sureX_ok h; obtain ⟨h3, h4⟩ := ih h2; exact ⟨by simp [h1, h3], h4⟩

/-! ### Loads -/
def loadX (ti : TI) (c : SC) (H : Hp) (G : List SB) (K : SV → Prop) : Prop :=
  match c with
  | .ptr k off => getG G k fun s => match s with
    | .box _ cs => match ti.agg with
      | false => getC cs off fun x => sureX x (K (.si (.ce x)))
      | true => dropC cs off fun l => takeC l ti.size fun l' => sureL l' (K (.si (.ag l')))
    | .arr _ xs => match ti.agg with
      | false => ∃ x, xs[off]? = some x ∧ K (.si (.ce (.val x)))
      | true => ∃ ys : List Value, ys.length = ti.size ∧ (∀ (j : Nat) (x : Value), ys[j]? = some x → xs[off + j]? = some x) ∧ valsX ys fun l => K (.si (.ag l))
    | .pre _ xs => match ti.agg with
      | false => ∃ x, xs[off]? = some x ∧ K (.si (.ce (.val x)))
      | true => False
    | .row _ _ _ xs => match ti.agg with
      | false => ∃ x, xs[off]? = some x ∧ K (.si (.ce (.val x)))
      | true => ∃ ys : List Value, ys.length = ti.size ∧ (∀ (j : Nat) (x : Value), ys[j]? = some x → xs[off + j]? = some x) ∧ valsX ys fun l => K (.si (.ag l))
    | _ => False
  | .pp A off => match ti.agg with
    | false => ∃ x, RdC H A off x ∧ K (.si (.ce (.val x)))
    | true => ∃ ys : List Value, ys.length = ti.size ∧ RdN H A off ys ∧ valsX ys fun l => K (.si (.ag l))
  | _ => False

section
variable {P : Program}
theorem run_loadVar_one {t : TypeId} {ti : TI} (ht : TOk P t ti) (ha : ti.agg = false) {w : World} {b o : Nat} {v : Value} (hc : w.cell? ⟨b, o, none⟩ = some v) : (loadVar t ⟨b, o, none⟩).run P w = .ok v w := by
  unfold loadVar
  rw [Sem.run_bind, ht.isAgg w]
  simp [ha, load, Sem.run, hc]
theorem run_loadVar_agg {t : TypeId} {ti : TI} (ht : TOk P t ti) (ha : ti.agg = true) {w : World} {b o : Nat} {cs : List Value} (hl : cs.length = ti.size) (hc : ∀ (j : Nat) (v : Value), cs[j]? = some v → w.cell? ⟨b, o + j, none⟩ = some v) :
    (loadVar t ⟨b, o, none⟩).run P w = .ok (.agg cs.toArray) w := by
  obtain ⟨d, h1, h2⟩ := ht.row ha
  exact run_loadVar_mid w b o t cs d hc h1 h2 (by rw [ht.infoSize, hl])
/-- The cells of a row of one's own. -/
theorem row_cell {w : World} {e sz n : Nat} {r : Value} {xs : List Value} (h : OwnRow w e sz r n xs) {off : Nat} {y : Value} (hp : ptrAt r off = some y) : ∃ g o, y = .pointer (some ⟨g, o + off, none⟩) ∧ ∀ (j : Nat) (x : Value), xs[j]? = some x → w.cell? ⟨g, o + j, none⟩ = some x := by
  rcases h.2 with ⟨rfl, hn⟩ | ⟨g, o, cap, cur, rfl, hh, _, _, hs, ht⟩
  · simp [ptrAt] at hp
  · simp only [ptrAt, Option.some.injEq] at hp
    refine ⟨g, o, hp.symm, fun j x hx => ?_⟩
    rw [← ht, List.getElem?_take] at hx
    split at hx
    · simp only [World.cell?, hh]; simpa using hx
    · cases hx
theorem loadX_ok {t : TypeId} {ti : TI} (ht : TOk P t ti) {c : SC} {H : Hp} {G : List SB} {K : SV → Prop} (h : loadX ti c H G K) :
    ∃ sv, K sv ∧ ∀ (ρ : List Value) (wc : World) (p : Value), Sw ρ H G wc → c.Is ρ p → ∃ v, sv.Is ρ v ∧ ∀ w, Sw ρ H G w → (Instr.loadAt t p).run P w = .ok v w := by
  have key : ∀ (w : World) (a : Addr) (v : Value), (loadVar t a).run P w = .ok v w → (Instr.loadAt t (.pointer (some a))).run P w = .ok v w := fun w a v hv => by
    simp only [Instr.loadAt, Instr.sureAddr, pure_bind]; exact hv
  cases c with
  | ptr k off =>
    obtain ⟨s, hk, h⟩ := getG_ok h
    cases s with
    | box tb cs =>
      cases ha : ti.agg with
      | false =>
        simp only [ha] at h
        obtain ⟨x, hx, h⟩ := getC_ok h
        obtain ⟨hsu, h⟩ := sureX_ok h
        refine ⟨_, h, fun ρ wc p hw hp => ?_⟩
        obtain ⟨r, hr, hpt⟩ := hp
        obtain ⟨g, ys, rfl, hh, hcs⟩ := hw.ok k _ r hk hr
        simp only [ptrAt, Option.some.injEq] at hpt
        subst hpt
        obtain ⟨y, hy, hxy⟩ := hcs.get hx
        refine ⟨y, hxy, fun w hw' => key _ _ _ ?_⟩
        obtain ⟨g', zs, e, hh', hcs'⟩ := hw'.ok k _ _ hk hr
        injection e with e; injection e with e; injection e with e
        subst e
        obtain ⟨z, hz, hxz⟩ := hcs'.get hx
        rw [hxy.uniq hsu hxz]
        exact run_loadVar_one ht ha (by simp [World.cell?, hh', hz])
      | true =>
        simp only [ha] at h
        obtain ⟨hl1, h⟩ := dropC_ok h
        obtain ⟨hl2, h⟩ := takeC_ok h
        obtain ⟨hsu, h⟩ := sureL_ok h
        refine ⟨_, h, fun ρ wc p hw hp => ?_⟩
        obtain ⟨r, hr, hpt⟩ := hp
        obtain ⟨g, ys, rfl, hh, hcs⟩ := hw.ok k _ r hk hr
        simp only [ptrAt, Option.some.injEq] at hpt
        subst hpt
        have hys := (hcs.drop off).take ti.size
        refine ⟨.agg ((ys.drop off).take ti.size).toArray, ⟨_, rfl, hys⟩, fun w hw' => key _ _ _ ?_⟩
        obtain ⟨g', zs, e, hh', hcs'⟩ := hw'.ok k _ _ hk hr
        injection e with e; injection e with e; injection e with e
        subst e
        rw [all2_uniq hsu hys ((hcs'.drop off).take ti.size)]
        have hlen := hcs'.length
        refine run_loadVar_agg ht ha (by simp at hl2 ⊢; omega) fun j v hv => ?_
        rw [List.getElem?_take] at hv
        split at hv
        · rw [List.getElem?_drop] at hv
          simp [World.cell?, hh', hv]
        · cases hv
    | arr tb xs =>
      cases ha : ti.agg with
      | false =>
        simp only [ha] at h
        obtain ⟨x, hx, h⟩ := h
        refine ⟨_, h, fun ρ wc p hw hp => ⟨x, rfl, fun w hw' => ?_⟩⟩
        obtain ⟨r, hr, hpt⟩ := hp
        obtain ⟨g, rfl, hh⟩ := hw'.ok k _ r hk hr
        simp only [ptrAt, Option.some.injEq] at hpt
        subst hpt
        exact key _ _ _ (run_loadVar_one ht ha (by simp [World.cell?, hh, hx]))
      | true =>
        simp only [ha] at h
        obtain ⟨ys, hl, hx, h⟩ := h
        obtain ⟨l, h, hl'⟩ := valsX_ok h
        refine ⟨_, h, fun ρ wc p hw hp => ⟨_, ⟨ys, rfl, hl' ρ⟩, fun w hw' => ?_⟩⟩
        obtain ⟨r, hr, hpt⟩ := hp
        obtain ⟨g, rfl, hh⟩ := hw'.ok k _ r hk hr
        simp only [ptrAt, Option.some.injEq] at hpt
        subst hpt
        exact key _ _ _ (run_loadVar_agg ht ha hl fun j v hv => by simp [World.cell?, hh, hx j v hv])
    | pre tb xs =>
      cases ha : ti.agg with
      | false =>
        simp only [ha] at h
        obtain ⟨x, hx, h⟩ := h
        refine ⟨_, h, fun ρ wc p hw hp => ⟨x, rfl, fun w hw' => ?_⟩⟩
        obtain ⟨r, hr, hpt⟩ := hp
        obtain ⟨g, cur, rfl, hh, htk⟩ := hw'.ok k _ r hk hr
        simp only [ptrAt, Option.some.injEq] at hpt
        subst hpt
        have hc : cur[off]? = some x := by
          rw [← htk, List.getElem?_take] at hx
          split at hx
          · simpa using hx
          · cases hx
        exact key _ _ _ (run_loadVar_one ht ha (by simp [World.cell?, hh, hc]))
      | true =>
        simp only [ha] at h
    | row e sz n xs =>
      cases ha : ti.agg with
      | false =>
        simp only [ha] at h
        obtain ⟨x, hx, h⟩ := h
        refine ⟨_, h, fun ρ wc p hw hp => ⟨x, rfl, fun w hw' => ?_⟩⟩
        obtain ⟨r, hr, hpt⟩ := hp
        obtain ⟨g, o, rfl, hc⟩ := row_cell (hw'.ok k _ r hk hr) hpt
        exact key _ _ _ (run_loadVar_one ht ha (hc off x hx))
      | true =>
        simp only [ha] at h
        obtain ⟨ys, hl, hx, h⟩ := h
        obtain ⟨l, h, hl'⟩ := valsX_ok h
        refine ⟨_, h, fun ρ wc p hw hp => ⟨_, ⟨ys, rfl, hl' ρ⟩, fun w hw' => ?_⟩⟩
        obtain ⟨r, hr, hpt⟩ := hp
        obtain ⟨g, o, rfl, hc⟩ := row_cell (hw'.ok k _ r hk hr) hpt
        exact key _ _ _ (run_loadVar_agg ht ha hl fun j v hv => by rw [Nat.add_assoc]; exact hc _ _ (hx j v hv))
    | map _ _ => exact h.elim
    | frz _ => exact h.elim
    | dead => exact h.elim
  | pp A off =>
    cases ha : ti.agg with
    | false =>
      simp only [loadX, ha] at h
      obtain ⟨x, ⟨b, o, rfl, hx⟩, h⟩ := h
      refine ⟨_, h, fun ρ wc p hw hp => ⟨x, rfl, fun w hw' => ?_⟩⟩
      obtain rfl : p = _ := hp
      exact key _ _ _ (run_loadVar_one ht ha (hw'.hin _ _ _ hx))
    | true =>
      simp only [loadX, ha] at h
      obtain ⟨ys, hl, ⟨b, o, rfl, hx⟩, h⟩ := h
      obtain ⟨l, h, hl'⟩ := valsX_ok h
      refine ⟨_, h, fun ρ wc p hw hp => ⟨_, ⟨ys, rfl, hl' ρ⟩, fun w hw' => ?_⟩⟩
      obtain rfl : p = _ := hp
      exact key _ _ _ (run_loadVar_agg ht ha hl fun j v hv => hw'.hin _ _ _ (hx j v hv))
  | val _ => exact h.elim
  | self _ => exact h.elim
  | fn _ _ _ => exact h.elim
  | any => exact h.elim
end

/-! ### All kinds -/
/-- The field's place, type and size. -/
def fieldX : List (Nat × TypeId × Nat) → Nat → (Nat → TypeId → Nat → Prop) → Prop
  | [], _, _ => False
  | (o, t, n) :: _, 0, K => K o t n
  | _ :: r, f + 1, K => fieldX r f K
theorem fieldX_ok {fs : List (Nat × TypeId × Nat)} {f : Nat} {K : Nat → TypeId → Nat → Prop} (h : fieldX fs f K) : ∃ o t n, fs[f]? = some (o, t, n) ∧ K o t n := by
  induction fs generalizing f with
  | nil => exact h.elim
  | cons s r ih =>
    cases f with
    | zero => exact ⟨_, _, _, rfl, h⟩
    | succ k => obtain ⟨o, t, n, h1, h2⟩ := ih h; exact ⟨o, t, n, by simpa using h1, h2⟩
def structX (ti : TI) (K : List (Nat × TypeId × Nat) → Prop) : Prop :=
  match ti.k with
  | .st fs => K fs
  | _ => False
theorem structX_ok {ti : TI} {K : List (Nat × TypeId × Nat) → Prop} (h : structX ti K) : ∃ fs, ti.k = .st fs ∧ K fs := by unfold structX at h; split at h <;> first | exact ⟨_, by assumption, h⟩ | exact h.elim
def pos (n : Nat) (K : Prop) : Prop :=
  match n with
  | 0 => False
  | _ + 1 => K
theorem pos_ok {n : Nat} {K : Prop} (h : pos n K) : n ≠ 0 ∧ K := by cases n with | zero => exact h.elim | succ n => exact ⟨by omega, h⟩
def offX (c : SC) (d : Nat) (K : SV → Prop) : Prop :=
  match c with
  | .ptr k o => K (.si (.ce (.ptr k (o + d))))
  | .pp A o => (∃ b o', A = some ⟨b, o', none⟩) ∧ K (.si (.ce (.pp A (o + d))))
  | _ => False
theorem offX_ok {c : SC} {d : Nat} {K : SV → Prop} (h : offX c d K) : ∃ sv, K sv ∧ ∀ ρ p, c.Is ρ p → ∃ a : Addr, p = .pointer (some a) ∧ sv.Is ρ (.pointer (some (a.add d))) := by
  cases c with
  | ptr k o =>
    refine ⟨_, h, fun ρ p hp => ?_⟩
    obtain ⟨r, hr, hpt⟩ := hp
    have hx : ∃ b, r = .pointer (some b) ∨ ∃ n c, r = .slice (some b) n c := by
      unfold ptrAt at hpt
      split at hpt
      · exact ⟨_, .inl rfl⟩
      · exact ⟨_, .inr ⟨_, _, rfl⟩⟩
      · cases hpt
    have hadd : ∀ b o : Nat, (⟨b, o, none⟩ : Addr).add d = ⟨b, o + d, none⟩ := fun b o => by unfold Addr.add; split <;> simp_all
    obtain ⟨b, rfl | ⟨n, c, rfl⟩⟩ := hx
    · simp only [ptrAt, Option.some.injEq] at hpt
      exact ⟨_, hpt.symm, _, hr, by rw [hadd]; rfl⟩
    · simp only [ptrAt, Option.some.injEq] at hpt
      exact ⟨_, hpt.symm, _, hr, by rw [hadd, Nat.add_assoc]; rfl⟩
  | pp A o =>
    obtain ⟨⟨b, o', rfl⟩, h⟩ := h
    refine ⟨_, h, fun ρ p hp => ⟨⟨b, o' + o, none⟩, hp, ?_⟩⟩
    have hadd : (⟨b, o' + o, none⟩ : Addr).add d = ⟨b, o' + o + d, none⟩ := by unfold Addr.add; split <;> simp_all
    rw [hadd, Nat.add_assoc]
    rfl
  | val _ => exact h.elim
  | self _ => exact h.elim
  | fn _ _ _ => exact h.elim
  | any => exact h.elim
def evL : List Operand → Fr → (List SV → Prop) → Prop
  | [], _, K => K []
  | x :: r, F, K => evX x F fun v => evL r F fun l => K (v :: l)
theorem evL_ok {xs : List Operand} {F : Fr} {K : List SV → Prop} (h : evL xs F K) : ∃ svs, K svs ∧ ∀ ρ (a : Act), FOk ρ F a.tmps → All2 (SV.Is ρ) svs (xs.map a.eval) := by
  induction xs generalizing K with
  | nil => exact ⟨[], h, fun _ _ _ => .nil⟩
  | cons x r ih =>
    obtain ⟨v, h1, h2⟩ := evX_ok h
    obtain ⟨l, h3, h4⟩ := ih h1
    exact ⟨_, h3, fun ρ a hf => .cons (h2 ρ a hf) (h4 ρ a hf)⟩
def capsX : List SV → (List (Nat × Nat) → Prop) → Prop
  | [], K => K []
  | v :: r, K => cellX v fun c => match c with
    | .ptr k o => capsX r fun l => K ((k, o) :: l)
    | _ => False
theorem capsX_ok {svs : List SV} {K : List (Nat × Nat) → Prop} (h : capsX svs K) : ∃ l, K l ∧ ∀ ρ ys, All2 (SV.Is ρ) svs ys → All2 (fun (p : Nat × Nat) z => ∃ r, ρ[p.1]? = some r ∧ ptrAt r p.2 = some z) l ys := by
  induction svs generalizing K with
  | nil => exact ⟨[], h, fun ρ ys hy => by cases hy; exact .nil⟩
  | cons v r ih =>
    obtain ⟨c, rfl, h⟩ := cellX_ok h
    cases c with
    | ptr k o =>
      obtain ⟨l, h1, h2⟩ := ih h
      exact ⟨_, h1, fun ρ ys hy => by cases hy with | cons h3 h4 => exact .cons h3 (h2 ρ _ h4)⟩
    | _ => exact h.elim
end Go.Kx
