/- Quiet operations, whole: one function over all kinds, and that what it tells is so. Generic in the program; no condition of its own. -/
import Derived.Test.YtbjiioclhgdeeaaGreatDoorMB01
import Derived.Laws.Tables
namespace Go.Kx
open Go.RowKit

def QO (P : Program) (o : Oper) (F : Fr) (H : Hp) (G : List SB) (K : SV → Prop) : Prop :=
 ∃ sv, K sv ∧ ∀ (ρ : List Value) (a : Act) (wc : World), FOk ρ F a.tmps → Sw ρ H G wc → ∃ v, sv.Is ρ v ∧ ∀ w, Sw ρ H G w → (execOp a.eval o).run P w = .ok (.value v) w

def minB (x y : Int) : Int := if y < x then y else x
def maxB (x y : Int) : Int := if y > x then y else x

def SC.sure : SC → Bool
 | .any => false
 | _ => true
theorem SC.Is.uniq {ρ : List Value} {c : SC} (hs : c.sure = true) {y z : Value} (h : c.Is ρ y) (h' : c.Is ρ z) : y = z := by
 cases c with
 | val x => exact h.trans h'.symm
 | ptr k off =>
  obtain ⟨r, h1, h2⟩ := h
  obtain ⟨r', h3, h4⟩ := h'
  rw [h1] at h3; injection h3 with h3; subst h3
  rw [h2] at h4; injection h4
 | self k => have h1 : ρ[k]? = some y := h; have h2 : ρ[k]? = some z := h'; rw [h1] at h2; injection h2
 | fn f n caps =>
  obtain ⟨ys, rfl, h2⟩ := h
  obtain ⟨zs, rfl, h4⟩ := h'
  suffices h : ys = zs by rw [h]
  clear hs
  induction h2 generalizing zs with
  | nil => cases h4; rfl
  | cons h5 _ ih =>
   cases h4 with | cons h6 h7 =>
    obtain ⟨r, e1, e2⟩ := h5
    obtain ⟨r', e3, e4⟩ := h6
    rw [e1] at e3; injection e3 with e3; subst e3
    rw [e2] at e4; injection e4 with e4; subst e4
    rw [ih _ h7]
 | pp A off => exact h.trans h'.symm
 | cut k sz lo m =>
  obtain ⟨r, h1, h2⟩ := h
  obtain ⟨r', h3, h4⟩ := h'
  rw [h1] at h3; injection h3 with h3; subst h3
  rw [h2] at h4; injection h4
 | any => cases hs
theorem all2_uniq {ρ : List Value} {cs : List SC} (hs : cs.all SC.sure = true) {ys zs : List Value} (h : All2 (SC.Is ρ) cs ys) (h' : All2 (SC.Is ρ) cs zs) : ys = zs := by
 induction h generalizing zs with
 | nil => cases h'; rfl
 | cons h1 _ ih =>
  simp only [List.all_cons, Bool.and_eq_true] at hs
  cases h' with | cons h2 h3 => rw [h1.uniq hs.1 h2, ih hs.2 h3]
def sureX (c : SC) (K : Prop) : Prop :=
 match c with
 | .any => False
 | _ => K
theorem sureX_ok {c : SC} {K : Prop} (h : sureX c K) : c.sure = true ∧ K := by unfold sureX at h; split at h <;> first | exact h.elim | (refine ⟨?_, h⟩; cases c <;> first | rfl | simp_all)
def sureL : List SC → Prop → Prop
 | [], K => K
 | c :: r, K => sureX c (sureL r K)
theorem sureL_ok {l : List SC} {K : Prop} (h : sureL l K) : l.all SC.sure = true ∧ K := by
 induction l with
 | nil => exact ⟨rfl, h⟩
 | cons c r ih => obtain ⟨h1, h2⟩ := sureX_ok h; obtain ⟨h3, h4⟩ := ih h2; exact ⟨by simp [h1, h3], h4⟩

def loadX (ti : TI) (c : SC) (H : Hp) (G : List SB) (K : SV → Prop) : Prop :=
 match c with
 | .ptr k off => getG G k fun s => match s with
  | .box _ cs => match ti.agg with
   | false => getC cs off fun x => sureX x (K (.si (.ce x)))
   | true => dropC cs off fun l => takeC l ti.size fun l' => sureL l' (K (.si (.ag l')))
  | .arr _ xs => match ti.agg with
   | false => ∃ x, xs[off]? = some x ∧ K (.si (.ce (.val x)))
   | true => ∃ ys : List Value, ys.length = ti.size ∧ (∀ (j : Nat) (x : Value), ys[j]? = some x → xs[off + j]? = some x) ∧ valsX ys fun l => K (.si (.ag l))
  | .pre _ xs => match ti.agg with
   | false => ∃ x, xs[off]? = some x ∧ K (.si (.ce (.val x)))
   | true => False
  | .row _ _ _ xs => match ti.agg with
   | false => ∃ x, xs[off]? = some x ∧ K (.si (.ce (.val x)))
   | true => ∃ ys : List Value, ys.length = ti.size ∧ (∀ (j : Nat) (x : Value), ys[j]? = some x → xs[off + j]? = some x) ∧ valsX ys fun l => K (.si (.ag l))
  | .byt _ _ xs => match ti.agg with
   | false => ∃ x, xs[off]? = some x ∧ K (.si (.ce (.val x)))
   | true => False
  | _ => False
 | .pp A off => match ti.agg with
  | false => ∃ x, RdC H A off x ∧ K (.si (.ce (.val x)))
  | true => ∃ ys : List Value, ys.length = ti.size ∧ RdN H A off ys ∧ valsX ys fun l => K (.si (.ag l))
 | _ => False

section
variable {P : Program}
theorem run_loadVar_one {t : TypeId} {ti : TI} (ht : TOk P t ti) (ha : ti.agg = false) {w : World} {b o : Nat} {v : Value} (hc : w.cell? ⟨b, o, none⟩ = some v) : (loadVar t ⟨b, o, none⟩).run P w = .ok v w := by
 unfold loadVar
 rw [Sem.run_bind, ht.isAgg w]
 simp [ha, load, Sem.run, hc]
theorem run_loadVar_agg {t : TypeId} {ti : TI} (ht : TOk P t ti) (ha : ti.agg = true) {w : World} {b o : Nat} {cs : List Value} (hl : cs.length = ti.size) (hc : ∀ (j : Nat) (v : Value), cs[j]? = some v → w.cell? ⟨b, o + j, none⟩ = some v) :
  (loadVar t ⟨b, o, none⟩).run P w = .ok (.agg cs.toArray) w := by
 obtain ⟨d, h1, h2⟩ := ht.row ha
 exact run_loadVar_mid w b o t cs d hc h1 h2 (by rw [ht.infoSize, hl])
theorem row_cell {w : World} {e sz n : Nat} {r : Value} {xs : List Value} (h : OwnRow w e sz r n xs) {off : Nat} {y : Value} (hp : ptrAt r off = some y) : ∃ g o, y = .pointer (some ⟨g, o + off, none⟩) ∧ ∀ (j : Nat) (x : Value), xs[j]? = some x → w.cell? ⟨g, o + j, none⟩ = some x := by
 rcases h.2 with ⟨rfl, hn⟩ | ⟨g, o, cap, cur, rfl, hh, _, _, hs, ht⟩
 ·simp [ptrAt] at hp
 ·simp only [ptrAt, Option.some.injEq] at hp
  refine ⟨g, o, hp.symm, fun j x hx => ?_⟩
  rw [← ht, List.getElem?_take] at hx
  split at hx
  ·simp only [World.cell?, hh]; simpa using hx
  ·cases hx
theorem loadX_ok {t : TypeId} {ti : TI} (ht : TOk P t ti) {c : SC} {H : Hp} {G : List SB} {K : SV → Prop} (h : loadX ti c H G K) :
  ∃ sv, K sv ∧ ∀ (ρ : List Value) (wc : World) (p : Value), Sw ρ H G wc → c.Is ρ p → ∃ v, sv.Is ρ v ∧ ∀ w, Sw ρ H G w → (Instr.loadAt t p).run P w = .ok v w := by
 have key : ∀ (w : World) (a : Addr) (v : Value), (loadVar t a).run P w = .ok v w → (Instr.loadAt t (.pointer (some a))).run P w = .ok v w := fun w a v hv => by
  simp only [Instr.loadAt, Instr.sureAddr, pure_bind]; exact hv
 cases c with
 | ptr k off =>
  obtain ⟨s, hk, h⟩ := getG_ok h
  cases s with
  | box tb cs =>
   cases ha : ti.agg with
   | false =>
    simp only [ha] at h
    obtain ⟨x, hx, h⟩ := getC_ok h
    obtain ⟨hsu, h⟩ := sureX_ok h
    refine ⟨_, h, fun ρ wc p hw hp => ?_⟩
    obtain ⟨r, hr, hpt⟩ := hp
    obtain ⟨g, ys, rfl, hh, hcs⟩ := hw.ok k _ r hk hr
    simp only [ptrAt, Option.some.injEq] at hpt
    subst hpt
    obtain ⟨y, hy, hxy⟩ := hcs.get hx
    refine ⟨y, hxy, fun w hw' => key _ _ _ ?_⟩
    obtain ⟨g', zs, e, hh', hcs'⟩ := hw'.ok k _ _ hk hr
    injection e with e; injection e with e; injection e with e
    subst e
    obtain ⟨z, hz, hxz⟩ := hcs'.get hx
    rw [hxy.uniq hsu hxz]
    exact run_loadVar_one ht ha (by simp [World.cell?, hh', hz])
   | true =>
    simp only [ha] at h
    obtain ⟨hl1, h⟩ := dropC_ok h
    obtain ⟨hl2, h⟩ := takeC_ok h
    obtain ⟨hsu, h⟩ := sureL_ok h
    refine ⟨_, h, fun ρ wc p hw hp => ?_⟩
    obtain ⟨r, hr, hpt⟩ := hp
    obtain ⟨g, ys, rfl, hh, hcs⟩ := hw.ok k _ r hk hr
    simp only [ptrAt, Option.some.injEq] at hpt
    subst hpt
    have hys := (hcs.drop off).take ti.size
    refine ⟨.agg ((ys.drop off).take ti.size).toArray, ⟨_, rfl, hys⟩, fun w hw' => key _ _ _ ?_⟩
    obtain ⟨g', zs, e, hh', hcs'⟩ := hw'.ok k _ _ hk hr
    injection e with e; injection e with e; injection e with e
    subst e
    rw [all2_uniq hsu hys ((hcs'.drop off).take ti.size)]
    have hlen := hcs'.length
    refine run_loadVar_agg ht ha (by simp at hl2 ⊢; omega) fun j v hv => ?_
    rw [List.getElem?_take] at hv
    split at hv
    ·rw [List.getElem?_drop] at hv
     simp [World.cell?, hh', hv]
    ·cases hv
  | arr tb xs =>
   cases ha : ti.agg with
   | false =>
    simp only [ha] at h
    obtain ⟨x, hx, h⟩ := h
    refine ⟨_, h, fun ρ wc p hw hp => ⟨x, rfl, fun w hw' => ?_⟩⟩
    obtain ⟨r, hr, hpt⟩ := hp
    obtain ⟨g, rfl, hh⟩ := hw'.ok k _ r hk hr
    simp only [ptrAt, Option.some.injEq] at hpt
    subst hpt
    exact key _ _ _ (run_loadVar_one ht ha (by simp [World.cell?, hh, hx]))
   | true =>
    simp only [ha] at h
    obtain ⟨ys, hl, hx, h⟩ := h
    obtain ⟨l, h, hl'⟩ := valsX_ok h
    refine ⟨_, h, fun ρ wc p hw hp => ⟨_, ⟨ys, rfl, hl' ρ⟩, fun w hw' => ?_⟩⟩
    obtain ⟨r, hr, hpt⟩ := hp
    obtain ⟨g, rfl, hh⟩ := hw'.ok k _ r hk hr
    simp only [ptrAt, Option.some.injEq] at hpt
    subst hpt
    exact key _ _ _ (run_loadVar_agg ht ha hl fun j v hv => by simp [World.cell?, hh, hx j v hv])
  | pre tb xs =>
   cases ha : ti.agg with
   | false =>
    simp only [ha] at h
    obtain ⟨x, hx, h⟩ := h
    refine ⟨_, h, fun ρ wc p hw hp => ⟨x, rfl, fun w hw' => ?_⟩⟩
    obtain ⟨r, hr, hpt⟩ := hp
    obtain ⟨g, cur, rfl, hh, htk⟩ := hw'.ok k _ r hk hr
    simp only [ptrAt, Option.some.injEq] at hpt
    subst hpt
    have hc : cur[off]? = some x := by
     rw [← htk, List.getElem?_take] at hx
     split at hx
     ·simpa using hx
     ·cases hx
    exact key _ _ _ (run_loadVar_one ht ha (by simp [World.cell?, hh, hc]))
   | true =>
    simp only [ha] at h
  | row e sz n xs =>
   cases ha : ti.agg with
   | false =>
    simp only [ha] at h
    obtain ⟨x, hx, h⟩ := h
    refine ⟨_, h, fun ρ wc p hw hp => ⟨x, rfl, fun w hw' => ?_⟩⟩
    obtain ⟨r, hr, hpt⟩ := hp
    obtain ⟨g, o, rfl, hc⟩ := row_cell (hw'.ok k _ r hk hr) hpt
    exact key _ _ _ (run_loadVar_one ht ha (hc off x hx))
   | true =>
    simp only [ha] at h
    obtain ⟨ys, hl, hx, h⟩ := h
    obtain ⟨l, h, hl'⟩ := valsX_ok h
    refine ⟨_, h, fun ρ wc p hw hp => ⟨_, ⟨ys, rfl, hl' ρ⟩, fun w hw' => ?_⟩⟩
    obtain ⟨r, hr, hpt⟩ := hp
    obtain ⟨g, o, rfl, hc⟩ := row_cell (hw'.ok k _ r hk hr) hpt
    exact key _ _ _ (run_loadVar_agg ht ha hl fun j v hv => by rw [Nat.add_assoc]; exact hc _ _ (hx j v hv))
  | byt e n xs =>
   cases ha : ti.agg with
   | false =>
    simp only [ha] at h
    obtain ⟨x, hx, h⟩ := h
    refine ⟨_, h, fun ρ wc p hw hp => ⟨x, rfl, fun w hw' => ?_⟩⟩
    obtain ⟨r, hr, hpt⟩ := hp
    obtain ⟨_, g, cap, cur, fz, rfl, _, hh, _, _, htk⟩ := hw'.ok k _ r hk hr
    simp only [ptrAt, Option.some.injEq, Nat.zero_add] at hpt
    subst hpt
    have hc : cur[off]? = some x := by
     rw [← htk, List.getElem?_take] at hx
     split at hx
     ·simpa using hx
     ·cases hx
    exact key _ _ _ (run_loadVar_one ht ha (by simp [World.cell?, hh, hc]))
   | true =>
    simp only [ha] at h
  | map _ _ => exact h.elim
  | ent _ _ _ => exact h.elim
  | itr _ _ _ _ => exact h.elim
  | frz _ => exact h.elim
  | dead => exact h.elim
 | pp A off =>
  cases ha : ti.agg with
  | false =>
   simp only [loadX, ha] at h
   obtain ⟨x, ⟨b, o, rfl, hx⟩, h⟩ := h
   refine ⟨_, h, fun ρ wc p hw hp => ⟨x, rfl, fun w hw' => ?_⟩⟩
   obtain rfl : p = _ := hp
   exact key _ _ _ (run_loadVar_one ht ha (hw'.hin _ _ _ hx))
  | true =>
   simp only [loadX, ha] at h
   obtain ⟨ys, hl, ⟨b, o, rfl, hx⟩, h⟩ := h
   obtain ⟨l, h, hl'⟩ := valsX_ok h
   refine ⟨_, h, fun ρ wc p hw hp => ⟨_, ⟨ys, rfl, hl' ρ⟩, fun w hw' => ?_⟩⟩
   obtain rfl : p = _ := hp
   exact key _ _ _ (run_loadVar_agg ht ha hl fun j v hv => hw'.hin _ _ _ (hx j v hv))
 | val _ => exact h.elim
 | self _ => exact h.elim
 | cut _ _ _ _ => exact h.elim
 | fn _ _ _ => exact h.elim
 | any => exact h.elim
end

def fieldX : List (Nat × TypeId × Nat) → Nat → (Nat → TypeId → Nat → Prop) → Prop
 | [], _, _ => False
 | (o, t, n) :: _, 0, K => K o t n
 | _ :: r, f + 1, K => fieldX r f K
theorem fieldX_ok {fs : List (Nat × TypeId × Nat)} {f : Nat} {K : Nat → TypeId → Nat → Prop} (h : fieldX fs f K) : ∃ o t n, fs[f]? = some (o, t, n) ∧ K o t n := by
 induction fs generalizing f with
 | nil => exact h.elim
 | cons s r ih =>
  cases f with
  | zero => exact ⟨_, _, _, rfl, h⟩
  | succ k => obtain ⟨o, t, n, h1, h2⟩ := ih h; exact ⟨o, t, n, by simpa using h1, h2⟩
def structX (ti : TI) (K : List (Nat × TypeId × Nat) → Prop) : Prop :=
 match ti.k with
 | .st fs => K fs
 | _ => False
theorem structX_ok {ti : TI} {K : List (Nat × TypeId × Nat) → Prop} (h : structX ti K) : ∃ fs, ti.k = .st fs ∧ K fs := by unfold structX at h; split at h <;> first | exact ⟨_, by assumption, h⟩ | exact h.elim
def pos (n : Nat) (K : Prop) : Prop :=
 match n with
 | 0 => False
 | _ + 1 => K
theorem pos_ok {n : Nat} {K : Prop} (h : pos n K) : n ≠ 0 ∧ K := by cases n with | zero => exact h.elim | succ n => exact ⟨by omega, h⟩
def offX (c : SC) (d : Nat) (K : SV → Prop) : Prop :=
 match c with
 | .ptr k o => K (.si (.ce (.ptr k (o + d))))
 | .pp A o => (∃ b o', A = some ⟨b, o', none⟩) ∧ K (.si (.ce (.pp A (o + d))))
 | _ => False
theorem offX_ok {c : SC} {d : Nat} {K : SV → Prop} (h : offX c d K) : ∃ sv, K sv ∧ ∀ ρ p, c.Is ρ p → ∃ a : Addr, p = .pointer (some a) ∧ sv.Is ρ (.pointer (some (a.add d))) := by
 cases c with
 | ptr k o =>
  refine ⟨_, h, fun ρ p hp => ?_⟩
  obtain ⟨r, hr, hpt⟩ := hp
  have hx : ∃ b, r = .pointer (some b) ∨ ∃ n c, r = .slice (some b) n c := by
   unfold ptrAt at hpt
   split at hpt
   ·exact ⟨_, .inl rfl⟩
   ·exact ⟨_, .inr ⟨_, _, rfl⟩⟩
   ·cases hpt
  have hadd : ∀ b o : Nat, (⟨b, o, none⟩ : Addr).add d = ⟨b, o + d, none⟩ := fun b o => by unfold Addr.add; split <;> simp_all
  obtain ⟨b, rfl | ⟨n, c, rfl⟩⟩ := hx
  ·simp only [ptrAt, Option.some.injEq] at hpt
   exact ⟨_, hpt.symm, _, hr, by rw [hadd]; rfl⟩
  ·simp only [ptrAt, Option.some.injEq] at hpt
   exact ⟨_, hpt.symm, _, hr, by rw [hadd, Nat.add_assoc]; rfl⟩
 | pp A o =>
  obtain ⟨⟨b, o', rfl⟩, h⟩ := h
  refine ⟨_, h, fun ρ p hp => ⟨⟨b, o' + o, none⟩, hp, ?_⟩⟩
  have hadd : (⟨b, o' + o, none⟩ : Addr).add d = ⟨b, o' + o + d, none⟩ := by unfold Addr.add; split <;> simp_all
  rw [hadd, Nat.add_assoc]
  rfl
 | val _ => exact h.elim
 | self _ => exact h.elim
 | cut _ _ _ _ => exact h.elim
 | fn _ _ _ => exact h.elim
 | any => exact h.elim
def evL : List Operand → Fr → (List SV → Prop) → Prop
 | [], _, K => K []
 | x :: r, F, K => evX x F fun v => evL r F fun l => K (v :: l)
theorem evL_ok {xs : List Operand} {F : Fr} {K : List SV → Prop} (h : evL xs F K) : ∃ svs, K svs ∧ ∀ ρ (a : Act), FOk ρ F a.tmps → All2 (SV.Is ρ) svs (xs.map a.eval) := by
 induction xs generalizing K with
 | nil => exact ⟨[], h, fun _ _ _ => .nil⟩
 | cons x r ih =>
  obtain ⟨v, h1, h2⟩ := evX_ok h
  obtain ⟨l, h3, h4⟩ := ih h1
  exact ⟨_, h3, fun ρ a hf => .cons (h2 ρ a hf) (h4 ρ a hf)⟩
def capsX : List SV → (List (Nat × Nat) → Prop) → Prop
 | [], K => K []
 | v :: r, K => cellX v fun c => match c with
  | .ptr k o => capsX r fun l => K ((k, o) :: l)
  | _ => False
theorem capsX_ok {svs : List SV} {K : List (Nat × Nat) → Prop} (h : capsX svs K) : ∃ l, K l ∧ ∀ ρ ys, All2 (SV.Is ρ) svs ys → All2 (fun (p : Nat × Nat) z => ∃ r, ρ[p.1]? = some r ∧ ptrAt r p.2 = some z) l ys := by
 induction svs generalizing K with
 | nil => exact ⟨[], h, fun ρ ys hy => by cases hy; exact .nil⟩
 | cons v r ih =>
  obtain ⟨c, rfl, h⟩ := cellX_ok h
  cases c with
  | ptr k o =>
   obtain ⟨l, h1, h2⟩ := ih h
   exact ⟨_, h1, fun ρ ys hy => by cases hy with | cons h3 h4 => exact .cons h3 (h2 ρ _ h4)⟩
  | _ => exact h.elim
end Go.Kx
namespace Go.Kx
open Go.RowKit

def idxAddrX (T : Tab) (ti : TI) (sx : SV) (n : Int) (G : List SB) (K : SV → Prop) : Prop :=
 match ti.k with
 | .slice e => tabX T e fun ei => match sx with
  | .si (.ce (.val (.slice A len _))) => (0 ≤ n ∧ n < (len : Int)) ∧ (∃ b o, A = some ⟨b, o, none⟩) ∧ K (.si (.ce (.pp A (n.toNat * ei.size))))
  | .si (.ce (.self k)) => getG G k fun s => match s with
   | .frz (.slice A len _) => (0 ≤ n ∧ n < (len : Int)) ∧ (∃ b o, A = some ⟨b, o, none⟩) ∧ K (.si (.ce (.pp A (n.toNat * ei.size))))
   | .row _ _ len _ => (0 ≤ n ∧ n < (len : Int)) ∧ K (.si (.ce (.ptr k (n.toNat * ei.size))))
   | .byt _ len _ => (0 ≤ n ∧ n < (len : Int)) ∧ K (.si (.ce (.ptr k (n.toNat * ei.size))))
   | _ => False
  | _ => False
 | .ar m _ sz => cellX sx fun c => match c with
  | .ptr k o => (0 ≤ n ∧ n < (m : Int)) ∧ K (.si (.ce (.ptr k (o + n.toNat * sz))))
  | .pp A o => (0 ≤ n ∧ n < (m : Int)) ∧ (∃ b o', A = some ⟨b, o', none⟩) ∧ K (.si (.ce (.pp A (o + n.toNat * sz))))
  | _ => False
 | _ => False
section
variable {P : Program}
theorem run_indexAt_slice {t e : TypeId} {ti ei : TI} (ht : TOk P t ti) (hk : ti.k = .slice e) (he : TOk P e ei) {a : Addr} {len cap : Nat} {kk : IntKind} {n : Int} (h : 0 ≤ n ∧ n < (len : Int)) (w : World) :
  (Instr.indexAt t (.slice (some a) len cap) (.int kk n)).run P w = .ok (.pointer (some (a.add (n.toNat * ei.size)))) w := by
 simp [Instr.indexAt, asIntOf, Go.underlying, program, Sem.run, ht.slice hk, h, he.sizeOf w]
theorem run_indexAt_array {t e : TypeId} {m sz : Nat} {ti : TI} (ht : TOk P t ti) (hk : ti.k = .ar m e sz) {a : Addr} {kk : IntKind} {n : Int} (h : 0 ≤ n ∧ n < (m : Int)) (w : World) :
  (Instr.indexAt t (.pointer (some a)) (.int kk n)).run P w = .ok (.pointer (some (a.add (n.toNat * sz)))) w := by
 obtain ⟨h1, i, h2, h3⟩ := ht.array hk
 simp [Instr.indexAt, asIntOf, Go.underlying, program, Sem.run, h1, h, Instr.sureAddr, sizeOf, typeInfo, h2, h3]
theorem add_mid (b o d : Nat) : (⟨b, o, none⟩ : Addr).add d = ⟨b, o + d, none⟩ := by unfold Addr.add; split <;> simp_all
theorem idxAddrX_ok {T : Tab} (hT : TabOk P T) {t : TypeId} {ti : TI} (ht : TOk P t ti) {sx : SV} {n : Int} {kk : IntKind} {H : Hp} {G : List SB} {K : SV → Prop} (h : idxAddrX T ti sx n G K) :
  ∃ sv, K sv ∧ ∀ (ρ : List Value) (wc : World) (p : Value), Sw ρ H G wc → sx.Is ρ p → ∃ v, sv.Is ρ v ∧ ∀ w, (Instr.indexAt t p (.int kk n)).run P w = .ok v w := by
 unfold idxAddrX at h
 cases hk : ti.k with
 | slice e =>
  simp only [hk] at h
  obtain ⟨ei, he, h0⟩ := tabX_ok hT h
  clear h
  rcases sx with ⟨⟨c⟩ | l⟩ | l
  ·cases c with
   | val x =>
    cases x with
    | slice A len cap =>
     obtain ⟨h1, ⟨b, o, rfl⟩, h⟩ := h0
     refine ⟨_, h, fun ρ wc p _ hp => ?_⟩
     obtain rfl : p = _ := hp
     exact ⟨_, rfl, fun w => by rw [run_indexAt_slice ht hk he h1, add_mid]; rfl⟩
    | _ => exact h0.elim
   | self k =>
    obtain ⟨s, hs, h⟩ := getG_ok h0
    cases s with
    | frz x =>
     cases x with
     | slice A len cap =>
      obtain ⟨h1, ⟨b, o, rfl⟩, h⟩ := h
      refine ⟨_, h, fun ρ wc p hw hp => ?_⟩
      have hp' : ρ[k]? = some p := hp
      obtain rfl : p = _ := hw.ok k _ p hs hp'
      exact ⟨_, rfl, fun w => by rw [run_indexAt_slice ht hk he h1, add_mid]; rfl⟩
     | _ => exact h.elim
    | row e' sz' len xs =>
     obtain ⟨h1, h⟩ := h
     refine ⟨_, h, fun ρ wc p hw hp => ?_⟩
     have hp' : ρ[k]? = some p := hp
     rcases (hw.ok k _ p hs hp').2 with ⟨rfl, hn⟩ | ⟨g, oo, cap, cur, rfl, _⟩
     ·omega
     ·exact ⟨_, ⟨_, hp', rfl⟩, fun w => by rw [run_indexAt_slice ht hk he h1, add_mid]⟩
    | byt e' len xs =>
     obtain ⟨h1, h⟩ := h
     refine ⟨_, h, fun ρ wc p hw hp => ?_⟩
     have hp' : ρ[k]? = some p := hp
     obtain ⟨_, g, cap, cur, fz, rfl, _⟩ := hw.ok k _ p hs hp'
     exact ⟨_, ⟨_, hp', rfl⟩, fun w => by rw [run_indexAt_slice ht hk he h1, add_mid]⟩
    | _ => exact h.elim
   | _ => exact h0.elim
  ·exact h0.elim
  ·exact h0.elim
 | ar m e sz =>
  simp only [hk] at h
  obtain ⟨c, rfl, h0⟩ := cellX_ok h
  clear h
  cases c with
  | ptr k o =>
   obtain ⟨h1, h⟩ := h0
   refine ⟨_, h, fun ρ wc p _ hp => ?_⟩
   obtain ⟨r, hr, hpt⟩ := hp
   have hx : ∃ b : Addr, r = .pointer (some b) ∨ ∃ n c, r = .slice (some b) n c := by
    unfold ptrAt at hpt
    split at hpt
    ·exact ⟨_, .inl rfl⟩
    ·exact ⟨_, .inr ⟨_, _, rfl⟩⟩
    ·cases hpt
   obtain ⟨b, rfl | ⟨n', c', rfl⟩⟩ := hx
   ·simp only [ptrAt, Option.some.injEq] at hpt
    subst hpt
    exact ⟨_, ⟨_, hr, rfl⟩, fun w => by rw [run_indexAt_array ht hk h1, add_mid]⟩
   ·simp only [ptrAt, Option.some.injEq] at hpt
    subst hpt
    exact ⟨_, ⟨_, hr, rfl⟩, fun w => by rw [run_indexAt_array ht hk h1, add_mid, Nat.add_assoc]⟩
  | pp A o =>
   obtain ⟨h1, ⟨b, o', rfl⟩, h⟩ := h0
   refine ⟨_, h, fun ρ wc p _ hp => ?_⟩
   obtain rfl : p = _ := hp
   refine ⟨_, rfl, fun w => ?_⟩
   show (Instr.indexAt t (.pointer (some ⟨b, o' + _, none⟩)) (.int kk n)).run P w = _
   rw [run_indexAt_array ht hk h1, add_mid, Nat.add_assoc]
   rfl
  | _ => exact h0.elim
 | _ => simp only [hk] at h

def idxX (T : Tab) (ti : TI) (sx : SV) (n : Int) (K : SV → Prop) : Prop :=
 match ti.k with
 | .string => strX sx fun s => (0 ≤ n ∧ n < (s.size : Int)) ∧ K (.si (.ce (.val (.int .u8 (byteAt s n)))))
 | .ar m e _ => tabX T e fun ei => match ei.agg with
  | false => aggX sx fun cs => (0 ≤ n ∧ n < (m : Int)) ∧ ∃ c, cs[n.toNat * ei.size]? = some c ∧ K (.si (.ce c))
  | true => False
 | _ => False
theorem idxX_ok {T : Tab} (hT : TabOk P T) {t : TypeId} {ti : TI} (ht : TOk P t ti) {sx : SV} {n : Int} {kk : IntKind} {K : SV → Prop} (h : idxX T ti sx n K) :
  ∃ sv, K sv ∧ ∀ (ρ : List Value) (p : Value), sx.Is ρ p → ∃ v, sv.Is ρ v ∧ ∀ w, (Instr.index t p (.int kk n)).run P w = .ok v w := by
 unfold idxX at h
 split at h
 ·rename_i hk
  obtain ⟨s, rfl, h1, h⟩ := strX_ok h
  refine ⟨_, h, fun ρ p hp => ⟨_, rfl, fun w => ?_⟩⟩
  obtain rfl : p = _ := hp
  have hlt : n.toNat < s.size := by omega
  have hg : s[n.toNat]? = some s[n.toNat] := by simp [hlt]
  have hb : byteAt s n = (s[n.toNat].toNat : Int) := by
   unfold byteAt
   have : s.data.toList.getD n.toNat 0 = s[n.toNat] := by
    rw [List.getD_eq_getElem?_getD]
    have hl : n.toNat < s.data.toList.length := by simpa using hlt
    rw [List.getElem?_eq_getElem hl]; rfl
   rw [this]
  simp [Instr.index, asIntOf, Go.underlying, program, Sem.run, ht.string hk, h1.1, hg, hb]
 ·rename_i m e sz hk
  obtain ⟨ei, he, h⟩ := tabX_ok hT h
  split at h
  ·rename_i ha
   obtain ⟨cs, rfl, h1, c, hc, h⟩ := aggX_ok h
   refine ⟨_, h, fun ρ p hp => ?_⟩
   obtain ⟨ys, rfl, hys⟩ := hp
   obtain ⟨y, hy, hcy⟩ := hys.get hc
   refine ⟨y, hcy, fun w => ?_⟩
   simp [Instr.index, asIntOf, Go.underlying, program, Sem.run, (ht.array hk).1, h1, he.sizeOf w, part, he.isAgg w, ha, hy]
  ·exact h.elim
 ·exact h.elim

def partX (ft : TypeId) (T : Tab) (cs : List SC) (o : Nat) (K : SV → Prop) : Prop :=
 tabX T ft fun fi => match fi.agg with
  | false => getC cs o fun c => K (.si (.ce c))
  | true => dropC cs o fun l => takeC l fi.size fun l' => K (.si (.ag l'))
theorem partX_ok {T : Tab} (hT : TabOk P T) {ft : TypeId} {cs : List SC} {o : Nat} {K : SV → Prop} (h : partX ft T cs o K) :
  ∃ sv, K sv ∧ ∀ (ρ : List Value) (ys : List Value), All2 (SC.Is ρ) cs ys → ∃ v, sv.Is ρ v ∧ ∀ w, (part ft ys.toArray o).run P w = .ok v w := by
 obtain ⟨fi, hf, h⟩ := tabX_ok hT h
 split at h
 ·rename_i ha
  obtain ⟨c, hc, h⟩ := getC_ok h
  refine ⟨_, h, fun ρ ys hys => ?_⟩
  obtain ⟨y, hy, hcy⟩ := hys.get hc
  exact ⟨y, hcy, fun w => by simp [part, hf.isAgg w, ha, hy]⟩
 ·rename_i ha
  obtain ⟨_, h⟩ := dropC_ok h
  obtain ⟨_, h⟩ := takeC_ok h
  refine ⟨_, h, fun ρ ys hys => ⟨.agg ((ys.drop o).take fi.size).toArray, ⟨_, rfl, (hys.drop o).take fi.size⟩, fun w => ?_⟩⟩
  have : ys.toArray.extract o (o + fi.size) = ((ys.drop o).take fi.size).toArray := by
   simp [List.extract_toArray, List.extract_eq_take_drop]
  simp only [part, Sem.run_bind, hf.isAgg w, ha, hf.sizeOf w, Result.andThen_ok, if_true, this]; rfl

def zerosX : List Z → (List SC → Prop) → Prop
 | [], K => K []
 | z :: r, K => zerosX r fun l => K (.val z.val :: l)
theorem zerosX_ok {l : List Z} {K : List SC → Prop} (h : zerosX l K) : ∃ cs, K cs ∧ ∀ ρ, All2 (SC.Is ρ) cs (l.map Z.val) := by
 induction l generalizing K with
 | nil => exact ⟨[], h, fun _ => .nil⟩
 | cons v r ih =>
  obtain ⟨cs, h1, h2⟩ := ih h
  exact ⟨_, h1, fun ρ => .cons rfl (h2 ρ)⟩
def putC : List SC → Nat → List SC → (List SC → Prop) → Prop
 | l, _, [], K => K l
 | [], _, _ :: _, _ => False
 | _ :: r, 0, y :: ys, K => putC r 0 ys fun l => K (y :: l)
 | c :: r, o + 1, y :: ys, K => putC r o (y :: ys) fun l => K (c :: l)
def splice {α : Type} (l : List α) (o : Nat) (ys : List α) : List α := l.take o ++ ys ++ l.drop (o + ys.length)
theorem putC_ok : ∀ {l : List SC} {o : Nat} {ys : List SC} {K : List SC → Prop}, putC l o ys K → ∃ l', K l' ∧ (ys = [] ∨ o + ys.length ≤ l.length) ∧ (ys = [] ∧ l' = l ∨ l' = splice l o ys)
 | l, o, [], K, h => ⟨l, by cases l <;> cases o <;> exact h, .inl rfl, .inl ⟨rfl, rfl⟩⟩
 | [], o, y :: ys, K, h => by cases o <;> exact h.elim
 | c :: r, 0, y :: ys, K, h => by
  obtain ⟨l', h1, h2, h3⟩ := putC_ok (l := r) (o := 0) (ys := ys) h
  refine ⟨_, h1, .inr ?_, .inr ?_⟩
  ·rcases h2 with rfl | h2 <;> simp <;> omega
  ·rcases h3 with ⟨rfl, rfl⟩ | rfl
   ·simp [splice]
   ·simp [splice, Nat.add_comm]
 | c :: r, o + 1, y :: ys, K, h => by
  obtain ⟨l', h1, h2, h3⟩ := putC_ok (l := r) (o := o) (ys := y :: ys) h
  refine ⟨_, h1, .inr ?_, .inr ?_⟩
  ·rcases h2 with h2 | h2
   ·cases h2
   ·simp at h2 ⊢; omega
  ·rcases h3 with ⟨h3, _⟩ | rfl
   ·cases h3
   ·simp [splice, Nat.add_comm, Nat.add_left_comm]
    rw [show o + (ys.length + 2) = (o + (ys.length + 1)) + 1 by omega, List.drop_succ_cons]
def cellsX (sv : SV) (K : List SC → Prop) : Prop :=
 match sv with
 | .si (.ce c) => K [c]
 | .si (.ag l) => K l
 | _ => False
theorem cellsX_ok {sv : SV} {K : List SC → Prop} (h : cellsX sv K) : ∃ l, K l ∧ ∀ ρ v, sv.Is ρ v → ((∃ c, sv = .si (.ce c) ∧ l = [c]) ∨ ∃ ys, v = .agg ys ∧ All2 (SC.Is ρ) l ys.toList) := by
 unfold cellsX at h
 split at h
 ·exact ⟨_, h, fun ρ v _ => .inl ⟨_, rfl, rfl⟩⟩
 ·exact ⟨_, h, fun ρ v ⟨ys, h1, h2⟩ => .inr ⟨_, h1, by simpa using h2⟩⟩
 ·exact h.elim
def oneX (c : SC) (K : Prop) : Prop :=
 match c with
 | .val v => match v with
  | .agg _ => False
  | .tuple _ => False
  | _ => K
 | .ptr .. => K
 | .pp .. => K
 | .fn .. => K
 | .cut .. => K
 | _ => False
theorem oneX_ok {c : SC} {K : Prop} (h : oneX c K) : K ∧ ∀ ρ v, c.Is ρ v → v.oneCell' = true ∧ v.cells = #[v] := by
 cases c with
 | val x =>
  cases x with
  | agg _ => exact h.elim
  | tuple _ => exact h.elim
  | _ => exact ⟨h, fun ρ y hy => by obtain rfl : y = _ := hy; exact ⟨rfl, rfl⟩⟩
 | ptr k o =>
  refine ⟨h, fun ρ y hy => ?_⟩
  obtain ⟨r, _, hp⟩ := hy
  unfold ptrAt at hp
  split at hp <;> first | (injection hp with hp; subst hp; exact ⟨rfl, rfl⟩) | cases hp
 | pp A o => exact ⟨h, fun ρ y hy => by obtain rfl : y = _ := hy; exact ⟨rfl, rfl⟩⟩
 | fn f n l => exact ⟨h, fun ρ y hy => by obtain ⟨ys, rfl, _⟩ := hy; exact ⟨rfl, rfl⟩⟩
 | cut k sz lo m =>
  refine ⟨h, fun ρ y hy => ?_⟩
  obtain ⟨r, _, hp⟩ := hy
  obtain ⟨_, _, _, _, _, rfl⟩ := cutV_slice hp
  exact ⟨rfl, rfl⟩
 | self _ => exact h.elim
 | any => exact h.elim
def selfOne (G : List SB) (k : Nat) (K : Prop) : Prop :=
 getG G k fun s => match s with
  | .row .. => K
  | .map .. => K
  | .frz (.slice ..) => K
  | _ => False
theorem selfOne_ok {G : List SB} {k : Nat} {K : Prop} (h : selfOne G k K) : K ∧ ∀ ρ H w v, Sw ρ H G w → ρ[k]? = some v → v.oneCell' = true ∧ v.cells = #[v] := by
 obtain ⟨s, hs, h⟩ := getG_ok h
 split at h
 ·refine ⟨h, fun ρ H w v hw hv => ?_⟩
  rcases (hw.ok k _ v hs hv).2 with ⟨rfl, _⟩ | ⟨g, oo, cap, cur, rfl, _⟩ <;> exact ⟨rfl, rfl⟩
 ·refine ⟨h, fun ρ H w v hw hv => ?_⟩
  obtain ⟨g, _, _, rfl, _⟩ := hw.ok k _ v hs hv
  exact ⟨rfl, rfl⟩
 ·refine ⟨h, fun ρ H w v hw hv => ?_⟩
  obtain rfl : v = _ := hw.ok k _ v hs hv
  exact ⟨rfl, rfl⟩
 ·exact h.elim
def oneGX (G : List SB) (c : SC) (K : Prop) : Prop :=
 match c with
 | .self k => selfOne G k K
 | c => oneX c K
theorem oneGX_ok {G : List SB} {c : SC} {K : Prop} (h : oneGX G c K) : K ∧ ∀ ρ H w v, Sw ρ H G w → c.Is ρ v → v.oneCell' = true ∧ v.cells = #[v] := by
 unfold oneGX at h
 split at h
 ·obtain ⟨h1, h2⟩ := selfOne_ok h
  exact ⟨h1, h2⟩
 ·obtain ⟨h1, h2⟩ := oneX_ok h
  exact ⟨h1, fun ρ _ _ v _ => h2 ρ v⟩
def allOne (G : List SB) : List SC → Prop → Prop
 | [], K => K
 | c :: r, K => oneGX G c (allOne G r K)
theorem allOne_ok {G : List SB} {l : List SC} {K : Prop} (h : allOne G l K) : K ∧ ∀ ρ H w ys, Sw ρ H G w → All2 (SC.Is ρ) l ys → ∀ v ∈ ys, v.oneCell' = true := by
 induction l with
 | nil => exact ⟨h, fun ρ H w ys _ hy v hv => by cases hy; cases hv⟩
 | cons c r ih =>
  obtain ⟨h1, h2⟩ := oneGX_ok h
  obtain ⟨h3, h4⟩ := ih h1
  refine ⟨h3, fun ρ H w ys hw hy v hv => ?_⟩
  cases hy with | cons h5 h6 =>
   rcases List.mem_cons.1 hv with rfl | hv
   ·exact (h2 ρ H w _ hw h5).1
   ·exact h4 ρ H w _ hw h6 v hv
end
end Go.Kx
namespace Go.Kx
open Go.RowKit

def evP : List (Nat × Operand) → Fr → (List (Nat × SV) → Prop) → Prop
 | [], _, K => K []
 | (i, x) :: r, F, K => evX x F fun v => evP r F fun l => K ((i, v) :: l)
theorem evP_ok {xs : List (Nat × Operand)} {F : Fr} {K : List (Nat × SV) → Prop} (h : evP xs F K) :
  ∃ l, K l ∧ ∀ ρ (a : Act), FOk ρ F a.tmps → All2 (fun (p : Nat × SV) (q : Nat × Value) => p.1 = q.1 ∧ p.2.Is ρ q.2) l (xs.map fun (i, x) => (i, a.eval x)) := by
 induction xs generalizing K with
 | nil => exact ⟨[], h, fun _ _ _ => .nil⟩
 | cons x r ih =>
  obtain ⟨i, x⟩ := x
  obtain ⟨v, h1, h2⟩ := evX_ok h
  obtain ⟨l, h3, h4⟩ := ih h1
  exact ⟨_, h3, fun ρ a hf => .cons ⟨rfl, h2 ρ a hf⟩ (h4 ρ a hf)⟩
def natEq (a b : Nat) (K : Prop) : Prop :=
 match Nat.beq a b with
 | true => K
 | false => False
theorem natEq_ok {a b : Nat} {K : Prop} (h : natEq a b K) : a = b ∧ K := by
 unfold natEq at h
 split at h
 ·rename_i hb; exact ⟨Nat.eq_of_beq_eq_true hb, h⟩
 ·exact h.elim
def lenC : List SC → (Nat → Prop) → Prop
 | [], K => K 0
 | _ :: r, K => lenC r fun n => K (n + 1)
theorem lenC_ok {l : List SC} {K : Nat → Prop} (h : lenC l K) : K l.length := by
 induction l generalizing K with
 | nil => exact h
 | cons c r ih => exact ih h
inductive Places
 | st (fs : List (Nat × TypeId × Nat))
 | ar (sz : Nat)
def Places.at (p : Places) (i : Nat) (K : Nat → Nat → Prop) : Prop :=
 match p with
 | .st fs => fieldX fs i fun o _ n => K o n
 | .ar sz => K (i * sz) sz
def Places.fn : Places → Nat → Option (Nat × Nat)
 | .st fs, i => (fs[i]?).map fun x => (x.1, x.2.2)
 | .ar sz, i => some (i * sz, sz)
theorem Places.at_ok {p : Places} {i : Nat} {K : Nat → Nat → Prop} (h : p.at i K) : ∃ o n, p.fn i = some (o, n) ∧ K o n := by
 cases p with
 | st fs => obtain ⟨o, t, n, h1, h2⟩ := fieldX_ok h; exact ⟨o, n, by simp [Places.fn, h1], h2⟩
 | ar sz => exact ⟨_, _, rfl, h⟩
def fillX (G : List SB) (pl : Places) : List SC → List (Nat × SV) → (List SC → Prop) → Prop
 | cs, [], K => K cs
 | cs, (i, sv) :: r, K => pl.at i fun o n => cellsX sv fun l => lenC l fun m => natEq m n (pos m <| allOne G l (putC cs o l fun cs' => fillX G pl cs' r K))
theorem foldl_set (ys : List Value) : ∀ (cells : Array Value) (o k : Nat), o + k + ys.length ≤ cells.size →
  ((ys.zipIdx k).foldl (fun cs (c, j) => cs.setIfInBounds (o + j) c) cells) = (splice cells.toList (o + k) ys).toArray := by
 induction ys with
 | nil => intro cells o k _; simp [splice]
 | cons y ys ih =>
  intro cells o k h
  simp only [List.zipIdx_cons, List.foldl_cons]
  rw [ih _ _ _ (by simp at h ⊢; omega)]
  congr 1
  simp only [List.length_cons] at h
  have h0 : o + k < cells.size := by omega
  apply List.ext_getElem?
  intro i
  simp only [splice, Array.toList_setIfInBounds, List.length_cons]
  rcases Nat.lt_trichotomy i (o + k) with hi | hi | hi
  ·rw [List.append_assoc, List.append_assoc, List.getElem?_append_left (by simp; omega), List.getElem?_append_left (by simp; omega), List.getElem?_take, List.getElem?_take, if_pos (by omega), if_pos hi, List.getElem?_set_ne (by omega)]
  ·subst hi
   rw [List.append_assoc, List.append_assoc, List.getElem?_append_left (by simp; omega), List.getElem?_append_right (by simp; omega), List.getElem?_take, if_pos (by omega)]
   simp [h0, Nat.min_eq_left (Nat.le_of_lt h0)]
  ·by_cases hi2 : i < o + k + (ys.length + 1)
   ·rw [List.append_assoc, List.append_assoc, List.getElem?_append_right (by simp; omega), List.getElem?_append_left (by simp; omega), List.getElem?_append_right (by simp; omega), List.getElem?_append_left (by simp; omega)]
    have e1 : (List.take (o + (k + 1)) (cells.toList.set (o + k) y)).length = o + k + 1 := by simp; omega
    have e2 : (List.take (o + k) cells.toList).length = o + k := by simp; omega
    rw [e1, e2, show i - (o + k) = (i - (o + k + 1)) + 1 by omega, List.getElem?_cons_succ]
   ·rw [List.getElem?_append_right (by simp; omega), List.getElem?_append_right (by simp; omega), List.getElem?_drop, List.getElem?_drop, List.getElem?_set_ne (by simp; omega)]
    congr 1
    simp; omega
theorem fillX_ok {G : List SB} {pl : Places} : ∀ {parts : List (Nat × SV)} {cs : List SC} {K : List SC → Prop}, fillX G pl cs parts K →
  ∃ cs', K cs' ∧ ∀ (ρ : List Value) (H : Hp) (w : World) (ys : List Value) (qs : List (Nat × Value)), Sw ρ H G w → All2 (SC.Is ρ) cs ys → All2 (fun (p : Nat × SV) (q : Nat × Value) => p.1 = q.1 ∧ p.2.Is ρ q.2) parts qs →
   ∃ ys', Instr.fill pl.fn ys.toArray qs = some ys'.toArray ∧ All2 (SC.Is ρ) cs' ys'
 | [], cs, K, h => ⟨cs, h, fun ρ H w ys qs _ hy hq => by cases hq; exact ⟨ys, rfl, hy⟩⟩
 | (i, sv) :: r, cs, K, h => by
  obtain ⟨o, n, h1, h⟩ := Places.at_ok h
  obtain ⟨l, h, h2⟩ := cellsX_ok h
  have h := lenC_ok h
  obtain ⟨h3, h⟩ := natEq_ok h
  obtain ⟨hpos, h⟩ := pos_ok h
  obtain ⟨h, h4⟩ := allOne_ok h
  obtain ⟨l', h, h5, h6⟩ := putC_ok h
  obtain ⟨cs', h, h7⟩ := fillX_ok h
  refine ⟨cs', h, fun ρ H w ys qs hw hy hq => ?_⟩
  cases hq with
  | cons hp hq =>
   rename_i q qs
   obtain ⟨i', v⟩ := q
   obtain ⟨rfl, hv⟩ := hp
   -- the part's cells
   have hcells : ∃ zs, v.cells.toList = zs ∧ All2 (SC.Is ρ) l zs := by
    rcases h2 ρ v hv with ⟨c, rfl, rfl⟩ | ⟨zs, rfl, hz⟩
    ·have hone := h4 ρ H w [v] hw (.cons hv .nil) v List.mem_cons_self
     refine ⟨[v], ?_, .cons hv .nil⟩
     cases v <;> first | rfl | cases hone
    ·exact ⟨_, rfl, hz⟩
   obtain ⟨zs, hz1, hz2⟩ := hcells
   have hzl := hz2.length
   have hyl := hy.length
   have hzs : v.cells.size = n := by rw [← Array.length_toList, hz1, ← hzl, h3]
   have hob : o + n ≤ ys.length := by
    rcases h5 with rfl | h5
    ·exact absurd rfl hpos
    ·omega
   have hys' : All2 (SC.Is ρ) l' (splice ys o zs) := by
    rcases h6 with ⟨rfl, rfl⟩ | rfl
    ·have : zs = [] := by simpa using hzl.symm
     subst this
     simpa [splice] using hy
    ·exact ((hy.take o).append hz2).append (by rw [hzl]; exact hy.drop _)
   obtain ⟨ys', h8, h9⟩ := h7 ρ H w _ qs hw hys' hq
   refine ⟨ys', ?_, h9⟩
   simp only [Instr.fill, h1]
   rw [if_neg (by simp [hzs]; omega)]
   rw [← h8]
   congr 1
   have := foldl_set zs ys.toArray o 0 (by simp; omega)
   simp only [Nat.add_zero] at this
   rw [← this, ← hz1]
   rw [← Array.foldl_toList, Array.toList_zipIdx]
end Go.Kx
namespace Go.Kx
open Go.RowKit

def pv (v : Value) : SV := .si (.ce (.val v))
theorem pv_is (ρ : List Value) (v : Value) : (pv v).Is ρ v := rfl

def nilOf (x : SC) (K : Bool → Prop) : Prop :=
  match x with
  | .val v => match v with
    | .pointer none => K true
    | .pointer (some _) => K false
    | .slice none _ _ => K true
    | .slice (some _) _ _ => K false
    | .nilIface => K true
    | .iface _ _ => K false
    | .nilFunc => K true
    | .func _ _ _ => K false
    | .map none => K true
    | .map (some _) => K false
    | _ => False
  | .ptr _ _ => K false
  | .fn _ _ _ => K false
  | _ => False
def nilKind (k : TK) (z : Value) : Bool :=
  match k, z with
  | .ptr _, .pointer none => true
  | .slice _, .slice none 0 0 => true
  | .func, .nilFunc => true
  | .map _ _, .map none => true
  | .ifc, .nilIface => true
  | _, _ => false
def nilFit (k : TK) (x : SC) : Bool :=
  match k, x with
  | .ptr _, .val (.pointer _) => true
  | .ptr _, .ptr _ _ => true
  | .slice _, .val (.slice _ _ _) => true
  | .func, .val .nilFunc => true
  | .func, .val (.func _ _ _) => true
  | .func, .fn _ _ _ => true
  | .map _ _, .val (.map _) => true
  | .ifc, .val .nilIface => true
  | .ifc, .val (.iface _ _) => true
  | _, _ => false
def isTrue (b : Bool) (K : Prop) : Prop :=
  match b with
  | true => K
  | false => False
theorem isTrue_ok {b : Bool} {K : Prop} (h : isTrue b K) : b = true ∧ K := by cases b with | true => exact ⟨rfl, h⟩ | false => exact h.elim
def isConstB : Operand → Bool
  | .const _ => true
  | _ => false
def nilCmp (T : Tab) (op : BinOp) (t : TypeId) (sx : SV) (z : Value) (K : SV → Prop) : Prop :=
  tabX T t fun ti => isTrue (nilKind ti.k z) <| cellX sx fun c => isTrue (nilFit ti.k c) <| nilOf c fun b => nilX op b fun v => K (pv v)
def binQ (T : Tab) (op : BinOp) (t : TypeId) (sx : SV) (y : Operand) (sy : SV) (K : SV → Prop) : Prop :=
  match sy with
  | .si (.ce (.val v)) => match v with
    | .int k' b => match sx with
      | .si (.ce (.val (.int k a))) => binX op (.int k a) (.int k' b) fun v => K (pv v)
      | _ => False
    | .string b => match sx with
      | .si (.ce (.val (.string a))) => binX op (.string a) (.string b) fun v => K (pv v)
      | _ => False
    | .bool b => match sx with
      | .si (.ce (.val (.bool a))) => tabX T t fun ti => match ti.k with
        | .bool => binX op (.bool a) (.bool b) fun v => K (pv v)
        | _ => False
      | _ => False
    | z => isTrue (isConstB y) (nilCmp T op t sx z K)
  | _ => False

section
variable {P : Program}
theorem run_equalIn_bool {t : TypeId} {ti : TI} (ht : TOk P t ti) (hk : ti.k = .bool) (a b : Bool) (w : World) (d : Nat) : (Op.equalIn (d + 1) t (.bool a) (.bool b)).run P w = .ok (a == b) w := by
  simp [Op.equalIn, run_underlying (ht.bool hk)]
theorem run_equal_bool {t : TypeId} {ti : TI} (ht : TOk P t ti) (hk : ti.k = .bool) (a b : Bool) (w : World) : (Op.equal t (.bool a) (.bool b)).run P w = .ok (a == b) w :=
  run_equalIn_bool ht hk a b w 9999
theorem run_eqGuard_plain {op : BinOp} {t : TypeId} {x y : Operand} {a b : Value} (h : ∀ c d, ¬ (a = .agg c ∧ b = .agg d)) (hn : ¬ (a = .nilIface ∧ b = .nilIface) ∨ isConstB y = true) (w : World) : (eqGuard op t x y a b).run P w = .ok () w := by
  cases op <;> first
    | rfl
    | (cases a <;> cases b <;> first
        | rfl
        | exact absurd ⟨rfl, rfl⟩ (h _ _)
        | (rcases hn with hn | hn
           · exact absurd ⟨rfl, rfl⟩ hn
           · cases y <;> first | (simp [isConstB] at hn; done) | simp [eqGuard]))
theorem binX_ok {t : TypeId} {op : BinOp} {a b : Value} {K : Value → Prop} (hb : ∀ x y, a = .bool x → b = .bool y → ∀ w : World, (Op.equal t a b).run P w = .ok (x == y) w) (h : binX op a b K) :
    ∃ v, K v ∧ ∀ (x y : Operand) (w : World), ((do eqGuard op t x y a b; binOp op t a b) : Sem Value).run P w = .ok v w := by
  have hg : ∀ (x y : Operand) (w : World), (∀ c d, ¬ (a = .agg c ∧ b = .agg d)) → ¬ (a = .nilIface ∧ b = .nilIface) → ((do eqGuard op t x y a b; binOp op t a b) : Sem Value).run P w = (binOp op t a b).run P w := fun x y w h1 h2 => by
    rw [Sem.run_bind, run_eqGuard_plain h1 (.inl h2)]; rfl
  cases a with
  | int k x =>
    cases b with
    | int k' y =>
      simp only [binX] at h
      split at h
      · obtain ⟨v, h1, h2⟩ := shiftInt_ok (P := P) (t := t) (k' := k') h
        exact ⟨v, h1, fun x y w => by rw [hg x y w (by simp) (by simp)]; exact h2 w⟩
      · rename_i hs
        split at h
        · rename_i hk
          obtain rfl := kindEq_ok hk
          obtain ⟨v, h1, h2⟩ := binInt_ok (P := P) (t := t) hs h
          exact ⟨v, h1, fun x y w => by rw [hg x y w (by simp) (by simp)]; exact h2 w⟩
        · exact h.elim
    | _ => exact h.elim
  | string x =>
    cases b with
    | string y =>
      obtain ⟨v, h1, h2⟩ := binStr_ok (P := P) (t := t) h
      exact ⟨v, h1, fun x y w => by rw [hg x y w (by simp) (by simp)]; exact h2 w⟩
    | _ => exact h.elim
  | bool x =>
    cases b with
    | bool y =>
      cases op <;> first
        | exact h.elim
        | (refine ⟨_, h, fun p q w => ?_⟩; rw [hg p q w (by simp) (by simp)]; simp only [binOp, Sem.run_bind, hb x y rfl rfl w, Result.andThen_ok]; rfl)
    | _ => exact h.elim
  | _ => exact h.elim

theorem run_equal_nil {t : TypeId} {ti : TI} (ht : TOk P t ti) {v z : Value} {b : Bool} (hz : nilKind ti.k z = true)
    (hv : (∃ e, ti.k = .ptr e ∧ ((v = .pointer none ∧ b = true) ∨ ∃ a, v = .pointer (some a) ∧ b = false)) ∨ (∃ e, ti.k = .slice e ∧ ((∃ n c, v = .slice none n c ∧ b = true) ∨ ∃ a n c, v = .slice (some a) n c ∧ b = false)) ∨
      (ti.k = .func ∧ ((v = .nilFunc ∧ b = true) ∨ ∃ f x y, v = .func f x y ∧ b = false)) ∨ (∃ k e, ti.k = .map k e ∧ ((v = .map none ∧ b = true) ∨ ∃ a, v = .map (some a) ∧ b = false)) ∨
      (ti.k = .ifc ∧ ((v = .nilIface ∧ b = true) ∨ ∃ u x, v = .iface u x ∧ b = false))) (w : World) : (Op.equal t v z).run P w = .ok b w := by
  suffices H : ∀ n, (Op.equalIn (n + 1) t v z).run P w = .ok b w from H 9999
  intro n
  rcases hv with ⟨e, hk, hv⟩ | ⟨e, hk, hv⟩ | ⟨hk, hv⟩ | ⟨k, e, hk, hv⟩ | ⟨hk, hv⟩ <;> rw [hk] at hz
  · have hu := ht.ptr hk
    obtain rfl : z = .pointer none := by unfold nilKind at hz; split at hz <;> first | rfl | (rename_i h; cases h; done) | cases hz
    rcases hv with ⟨rfl, rfl⟩ | ⟨a, rfl, rfl⟩ <;> simp [Op.equalIn, run_underlying hu]
  · have hu := ht.slice hk
    obtain rfl : z = .slice none 0 0 := by unfold nilKind at hz; split at hz <;> first | rfl | (rename_i h; cases h; done) | cases hz
    rcases hv with ⟨n, c, rfl, rfl⟩ | ⟨a, n, c, rfl, rfl⟩ <;> simp [Op.equalIn, run_underlying hu]
  · obtain ⟨x, y, z', hu⟩ := ht.func hk
    obtain rfl : z = .nilFunc := by unfold nilKind at hz; split at hz <;> first | rfl | (rename_i h; cases h; done) | cases hz
    rcases hv with ⟨rfl, rfl⟩ | ⟨f, p, q, rfl, rfl⟩ <;> simp [Op.equalIn, run_underlying hu]
  · have hu := ht.map hk
    obtain rfl : z = .map none := by unfold nilKind at hz; split at hz <;> first | rfl | (rename_i h; cases h; done) | cases hz
    rcases hv with ⟨rfl, rfl⟩ | ⟨a, rfl, rfl⟩ <;> simp [Op.equalIn, run_underlying hu]
  · obtain ⟨m, hu⟩ := ht.ifc hk
    obtain rfl : z = .nilIface := by unfold nilKind at hz; split at hz <;> first | rfl | (rename_i h; cases h; done) | cases hz
    rcases hv with ⟨rfl, rfl⟩ | ⟨u, x, rfl, rfl⟩ <;> simp [Op.equalIn, run_underlying hu]
end
end Go.Kx
namespace Go.Kx
open Go.RowKit

section
variable {P : Program}
theorem fit_ptr {k : TK} {a : Option Addr} (h : nilFit k (.val (.pointer a)) = true) : ∃ e, k = .ptr e := by cases k <;> first | exact ⟨_, rfl⟩ | cases h
theorem fit_ptr' {k : TK} {a b : Nat} (h : nilFit k (.ptr a b) = true) : ∃ e, k = .ptr e := by cases k <;> first | exact ⟨_, rfl⟩ | cases h
theorem fit_slice {k : TK} {a : Option Addr} {n c : Nat} (h : nilFit k (.val (.slice a n c)) = true) : ∃ e, k = .slice e := by cases k <;> first | exact ⟨_, rfl⟩ | cases h
theorem fit_ifc {k : TK} (h : nilFit k (.val .nilIface) = true) : k = .ifc := by cases k <;> first | rfl | cases h
theorem fit_ifc' {k : TK} {u : TypeId} {x : Value} (h : nilFit k (.val (.iface u x)) = true) : k = .ifc := by cases k <;> first | rfl | cases h
theorem fit_func {k : TK} (h : nilFit k (.val .nilFunc) = true) : k = .func := by cases k <;> first | rfl | cases h
theorem fit_func' {k : TK} {f : Fn} {x y : Array Value} (h : nilFit k (.val (.func f x y)) = true) : k = .func := by cases k <;> first | rfl | cases h
theorem fit_func2 {k : TK} {f : Fn} {n : Nat} {l : List (Nat × Nat)} (h : nilFit k (.fn f n l) = true) : k = .func := by cases k <;> first | rfl | cases h
theorem fit_map {k : TK} {r : Option Nat} (h : nilFit k (.val (.map r)) = true) : ∃ a e, k = .map a e := by cases k <;> first | exact ⟨_, _, rfl⟩ | cases h
theorem nilOf_ok {T : Tab} {t : TypeId} {ti : TI} (ht : TOk P t ti) {z : Value} (hz : nilKind ti.k z = true) {c : SC} (hf : nilFit ti.k c = true) {K : Bool → Prop} (h : nilOf c K) :
  ∃ b, K b ∧ ∀ ρ v, c.Is ρ v → (∀ w : World, (Op.equal t v z).run P w = .ok b w) ∧ (∀ x, v ≠ .agg x) ∧ (∀ k n, v ≠ .int k n) ∧ (∀ s, v ≠ .string s) ∧ (∀ k n, v ≠ .float k n) ∧ (∀ k n m, v ≠ .complex k n m) := by
 have _ := T
 have fit : ∀ v b, ((∃ e, ti.k = .ptr e ∧ ((v = .pointer none ∧ b = true) ∨ ∃ a, v = .pointer (some a) ∧ b = false)) ∨ (∃ e, ti.k = .slice e ∧ ((∃ n c, v = .slice none n c ∧ b = true) ∨ ∃ a n c, v = .slice (some a) n c ∧ b = false)) ∨
   (ti.k = .func ∧ ((v = .nilFunc ∧ b = true) ∨ ∃ f x y, v = .func f x y ∧ b = false)) ∨ (∃ k e, ti.k = .map k e ∧ ((v = .map none ∧ b = true) ∨ ∃ a, v = .map (some a) ∧ b = false)) ∨
   (ti.k = .ifc ∧ ((v = .nilIface ∧ b = true) ∨ ∃ u x, v = .iface u x ∧ b = false))) →
   (∀ w : World, (Op.equal t v z).run P w = .ok b w) ∧ (∀ x, v ≠ .agg x) ∧ (∀ k n, v ≠ .int k n) ∧ (∀ s, v ≠ .string s) ∧ (∀ k n, v ≠ .float k n) ∧ (∀ k n m, v ≠ .complex k n m) := by
  intro v b hv
  refine ⟨fun w => run_equal_nil ht hz hv w, ?_⟩
  rcases hv with ⟨e, hk, hv⟩ | ⟨e, hk, hv⟩ | ⟨hk, hv⟩ | ⟨k, e, hk, hv⟩ | ⟨hk, hv⟩
  ·rcases hv with ⟨rfl, rfl⟩ | ⟨a, rfl, rfl⟩ <;> simp
  ·rcases hv with ⟨n, c, rfl, rfl⟩ | ⟨a, n, c, rfl, rfl⟩ <;> simp
  ·rcases hv with ⟨rfl, rfl⟩ | ⟨f, p, q, rfl, rfl⟩ <;> simp
  ·rcases hv with ⟨rfl, rfl⟩ | ⟨a, rfl, rfl⟩ <;> simp
  ·rcases hv with ⟨rfl, rfl⟩ | ⟨u, x, rfl, rfl⟩ <;> simp
 cases c with
 | val v =>
  cases v with
  | pointer a =>
   have hk : ∃ e, ti.k = .ptr e := fit_ptr hf
   obtain ⟨e, hk⟩ := hk
   cases a with
   | none => exact ⟨true, h, fun ρ v hv => by obtain rfl : v = _ := hv; exact fit _ _ (.inl ⟨e, hk, .inl ⟨rfl, rfl⟩⟩)⟩
   | some a => exact ⟨false, h, fun ρ v hv => by obtain rfl : v = _ := hv; exact fit _ _ (.inl ⟨e, hk, .inr ⟨a, rfl, rfl⟩⟩)⟩
  | slice a n c =>
   have hk : ∃ e, ti.k = .slice e := fit_slice hf
   obtain ⟨e, hk⟩ := hk
   cases a with
   | none => exact ⟨true, h, fun ρ v hv => by obtain rfl : v = _ := hv; exact fit _ _ (.inr (.inl ⟨e, hk, .inl ⟨_, _, rfl, rfl⟩⟩))⟩
   | some a => exact ⟨false, h, fun ρ v hv => by obtain rfl : v = _ := hv; exact fit _ _ (.inr (.inl ⟨e, hk, .inr ⟨_, _, _, rfl, rfl⟩⟩))⟩
  | nilIface =>
   have hk : ti.k = .ifc := fit_ifc hf
   exact ⟨true, h, fun ρ v hv => by obtain rfl : v = _ := hv; exact fit _ _ (.inr (.inr (.inr (.inr ⟨hk, .inl ⟨rfl, rfl⟩⟩))))⟩
  | iface u x =>
   have hk : ti.k = .ifc := fit_ifc' hf
   exact ⟨false, h, fun ρ v hv => by obtain rfl : v = _ := hv; exact fit _ _ (.inr (.inr (.inr (.inr ⟨hk, .inr ⟨_, _, rfl, rfl⟩⟩))))⟩
  | nilFunc =>
   have hk : ti.k = .func := fit_func hf
   exact ⟨true, h, fun ρ v hv => by obtain rfl : v = _ := hv; exact fit _ _ (.inr (.inr (.inl ⟨hk, .inl ⟨rfl, rfl⟩⟩)))⟩
  | func f x y =>
   have hk : ti.k = .func := fit_func' hf
   exact ⟨false, h, fun ρ v hv => by obtain rfl : v = _ := hv; exact fit _ _ (.inr (.inr (.inl ⟨hk, .inr ⟨_, _, _, rfl, rfl⟩⟩)))⟩
  | map r =>
   have hk : ∃ k e, ti.k = .map k e := fit_map hf
   obtain ⟨k, e, hk⟩ := hk
   cases r with
   | none => exact ⟨true, h, fun ρ v hv => by obtain rfl : v = _ := hv; exact fit _ _ (.inr (.inr (.inr (.inl ⟨k, e, hk, .inl ⟨rfl, rfl⟩⟩))))⟩
   | some a => exact ⟨false, h, fun ρ v hv => by obtain rfl : v = _ := hv; exact fit _ _ (.inr (.inr (.inr (.inl ⟨k, e, hk, .inr ⟨_, rfl, rfl⟩⟩))))⟩
  | _ => exact h.elim
 | ptr k off =>
  have hk : ∃ e, ti.k = .ptr e := fit_ptr' hf
  obtain ⟨e, hk⟩ := hk
  refine ⟨false, h, fun ρ v hv => ?_⟩
  obtain ⟨r, _, hp⟩ := hv
  unfold ptrAt at hp
  split at hp <;> first | (injection hp with hp; subst hp; exact fit _ _ (.inl ⟨e, hk, .inr ⟨_, rfl, rfl⟩⟩)) | cases hp
 | fn f n l =>
  have hk : ti.k = .func := fit_func2 hf
  refine ⟨false, h, fun ρ v hv => ?_⟩
  obtain ⟨ys, rfl, _⟩ := hv
  exact fit _ _ (.inr (.inr (.inl ⟨hk, .inr ⟨_, _, _, rfl, rfl⟩⟩)))
 | _ => exact h.elim
theorem nilX_ok {op : BinOp} {b : Bool} {K : Value → Prop} (h : nilX op b K) : (op = .eql ∧ K (.bool b)) ∨ (op = .neq ∧ K (.bool (!b))) := by cases op <;> first | exact h.elim | exact .inl ⟨rfl, h⟩ | exact .inr ⟨rfl, h⟩
theorem nilCmp_ok {T : Tab} (hT : TabOk P T) {op : BinOp} {t : TypeId} {sx : SV} {z : Value} {K : SV → Prop} (h : nilCmp T op t sx z K) :
  ∃ sv, K sv ∧ ∀ ρ v, sx.Is ρ v → ∃ u, sv.Is ρ u ∧ ∀ (x y : Operand) (w : World), isConstB y = true → ((do eqGuard op t x y v z; binOp op t v z) : Sem Value).run P w = .ok u w := by
 obtain ⟨ti, ht, h⟩ := tabX_ok hT h
 obtain ⟨hz, h⟩ := isTrue_ok h
 obtain ⟨c, rfl, h⟩ := cellX_ok h
 obtain ⟨hf, h⟩ := isTrue_ok h
 obtain ⟨b, h, hb⟩ := nilOf_ok (T := T) ht hz hf h
 rcases nilX_ok h with ⟨rfl, h⟩ | ⟨rfl, h⟩
 all_goals
  refine ⟨_, h, fun ρ v hv => ⟨_, rfl, fun x y w hy => ?_⟩⟩
  obtain ⟨e1, e2, e3, e4, e5, e6⟩ := hb ρ v hv
  rw [Sem.run_bind, run_eqGuard_plain (fun c d e => e2 c e.1) (.inr hy), Result.andThen_ok]
  have := e1 w
  cases v <;> first | exact absurd rfl (e3 _ _) | exact absurd rfl (e4 _) | exact absurd rfl (e5 _ _) | exact absurd rfl (e6 _ _ _) | exact absurd rfl (e2 _) | (simp only [binOp, Sem.run_bind, this, Result.andThen_ok]; rfl)
theorem binQ_ok {T : Tab} (hT : TabOk P T) {op : BinOp} {t : TypeId} {sx sy : SV} {y : Operand} {K : SV → Prop} (h : binQ T op t sx y sy K) :
  ∃ sv, K sv ∧ ∀ ρ v u, sx.Is ρ v → sy.Is ρ u → ∃ r, sv.Is ρ r ∧ ∀ (x : Operand) (w : World), ((do eqGuard op t x y v u; binOp op t v u) : Sem Value).run P w = .ok r w := by
 unfold binQ at h
 split at h
 ·rename_i z
  split at h
  ·split at h
   ·obtain ⟨r, h1, h2⟩ := binX_ok (P := P) (t := t) (fun x y e => by cases e) h
    refine ⟨_, h1, fun ρ v u hv hu => ⟨r, rfl, fun x w => ?_⟩⟩
    obtain rfl : v = _ := hv
    obtain rfl : u = _ := hu
    exact h2 x y w
   ·exact h.elim
  ·split at h
   ·obtain ⟨r, h1, h2⟩ := binX_ok (P := P) (t := t) (fun x y e => by cases e) h
    refine ⟨_, h1, fun ρ v u hv hu => ⟨r, rfl, fun x w => ?_⟩⟩
    obtain rfl : v = _ := hv
    obtain rfl : u = _ := hu
    exact h2 x y w
   ·exact h.elim
  ·split at h
   ·obtain ⟨ti, ht, h0⟩ := tabX_ok hT h
    split at h0
    ·rename_i hk
     obtain ⟨r, h1, h2⟩ := binX_ok (P := P) (t := t) (fun x y e e' w => by cases e; cases e'; exact run_equal_bool ht hk _ _ w) h0
     refine ⟨_, h1, fun ρ v u hv hu => ⟨r, rfl, fun x w => ?_⟩⟩
     obtain rfl : v = _ := hv
     obtain rfl : u = _ := hu
     exact h2 x y w
    ·exact h0.elim
   ·exact h.elim
  ·obtain ⟨hc, h⟩ := isTrue_ok h
   obtain ⟨sv, h1, h2⟩ := nilCmp_ok hT h
   refine ⟨sv, h1, fun ρ v u hv hu => ?_⟩
   obtain rfl : u = _ := hu
   obtain ⟨r, h3, h4⟩ := h2 ρ v hv
   exact ⟨r, h3, fun x w => h4 x y w hc⟩
 ·exact h.elim

def ownNil (T : Tab) (op : BinOp) (t : TypeId) (k : Nat) (y : Operand) (z : Value) (G : List SB) (K : SV → Prop) : Prop :=
 isTrue (isConstB y) <| tabX T t fun ti => isTrue (nilKind ti.k z) <| isTrue (nilFit ti.k (.val (.slice none 0 0))) <| getG G k fun s => match s with
  | .row _ _ n _ => 0 < n ∧ nilX op false fun v => K (pv v)
  | _ => False
def binG (T : Tab) (op : BinOp) (t : TypeId) (sx : SV) (y : Operand) (sy : SV) (G : List SB) (K : SV → Prop) : Prop :=
 match sx with
 | .si (.ce (.self k)) => match sy with
  | .si (.ce (.val z)) => ownNil T op t k y z G K
  | _ => False
 | _ => binQ T op t sx y sy K
theorem binG_ok {T : Tab} (hT : TabOk P T) {op : BinOp} {t : TypeId} {sx sy : SV} {y : Operand} {G : List SB} {K : SV → Prop} (h : binG T op t sx y sy G K) :
  ∃ sv, K sv ∧ ∀ ρ v u, sx.Is ρ v → sy.Is ρ u → (∃ H wc, Sw ρ H G wc) → ∃ r, sv.Is ρ r ∧ ∀ (x : Operand) (w : World), ((do eqGuard op t x y v u; binOp op t v u) : Sem Value).run P w = .ok r w := by
 unfold binG at h
 split at h
 ·rename_i k
  split at h
  ·rename_i z
   obtain ⟨hy, h⟩ := isTrue_ok h
   obtain ⟨ti, ht, h⟩ := tabX_ok hT h
   obtain ⟨hz, h⟩ := isTrue_ok h
   obtain ⟨hf, h⟩ := isTrue_ok h
   obtain ⟨s, hs, h⟩ := getG_ok h
   split at h
   ·obtain ⟨hn, h⟩ := h
    rcases nilX_ok h with ⟨rfl, h⟩ | ⟨rfl, h⟩
    all_goals
     refine ⟨_, h, fun ρ v u hv hu hw => ⟨_, rfl, fun x w => ?_⟩⟩
     obtain rfl : u = z := hu
     obtain ⟨H, wc, hw⟩ := hw
     obtain ⟨r, hr, hok⟩ := hw.at hs
     have hv' : ρ[k]? = some v := hv
     obtain rfl : r = v := by rw [hr] at hv'; injection hv'
     obtain ⟨a, n, c, rfl⟩ : ∃ a n c, r = .slice (some a) n c := by
      rcases hok.2 with ⟨_, h0⟩ | ⟨g, o, cap, cur, rfl, _⟩
      ·omega
      ·exact ⟨_, _, _, rfl⟩
     obtain ⟨b, rfl, hb⟩ := nilOf_ok (T := T) (c := .val (.slice (some a) n c)) (K := fun b => b = false) ht hz (by obtain ⟨e, hk⟩ := fit_slice hf; rw [hk]; rfl) rfl
     obtain ⟨e1, e2, e3, e4, e5, e6⟩ := hb ρ _ rfl
     rw [Sem.run_bind, run_eqGuard_plain (fun c d e => e2 c e.1) (.inr hy), Result.andThen_ok]
     have := e1 w
     simp only [binOp, Sem.run_bind, this, Result.andThen_ok]; rfl
   ·exact h.elim
  ·exact h.elim
 ·obtain ⟨sv, h1, h2⟩ := binQ_ok hT h
  exact ⟨sv, h1, fun ρ v u hv hu _ => h2 ρ v u hv hu⟩

def unX (op : UnOp) (sx : SV) (K : SV → Prop) : Prop :=
 match op with
 | .neg => intX sx fun k n => K (pv (.int k (k.wrap (0 - n))))
 | .xor => intX sx fun k n => K (pv (.int k (k.wrap (BitVec.ofInt k.bits (if k.signed then -1 else k.max) ^^^ BitVec.ofInt k.bits n).toNat)))
 | .not => boolX sx fun b => K (pv (.bool (!b)))
 | _ => False
theorem unX_ok {op : UnOp} {sx : SV} {K : SV → Prop} (h : unX op sx K) : ∃ sv, K sv ∧ ∀ ρ v, sx.Is ρ v → ∃ r, sv.Is ρ r ∧ ∀ w : World, (Op.unary op v).run P w = .ok r w := by
 cases op with
 | neg =>
  obtain ⟨k, n, rfl, h⟩ := intX_ok h
  exact ⟨_, h, fun ρ v hv => ⟨_, rfl, fun w => by obtain rfl : v = _ := hv; rfl⟩⟩
 | xor =>
  obtain ⟨k, n, rfl, h⟩ := intX_ok h
  exact ⟨_, h, fun ρ v hv => ⟨_, rfl, fun w => by obtain rfl : v = _ := hv; rfl⟩⟩
 | not =>
  obtain ⟨b, rfl, h⟩ := boolX_ok h
  exact ⟨_, h, fun ρ v hv => ⟨_, rfl, fun w => by obtain rfl : v = _ := hv; rfl⟩⟩
 | plus => exact h.elim
def convX (T : Tab) (s d : TypeId) (sx : SV) (K : SV → Prop) : Prop :=
 tabX T s fun _ => tabX T d fun td => match td.k with
  | .int k => intX sx fun _ n => K (pv (.int k (k.wrap n)))
  | .string => strX sx fun b => K (pv (.string b))
  | _ => False
theorem convX_ok {T : Tab} (hT : TabOk P T) {s d : TypeId} {sx : SV} {K : SV → Prop} (h : convX T s d sx K) : ∃ sv, K sv ∧ ∀ ρ v, sx.Is ρ v → ∃ r, sv.Is ρ r ∧ ∀ w : World, (convert s d v).run P w = .ok r w := by
 obtain ⟨ts, hs, h⟩ := tabX_ok hT h
 obtain ⟨td, hd, h⟩ := tabX_ok hT h
 obtain ⟨ds, hds, _⟩ := hs.desc
 cases hk : td.k with
 | int k =>
  simp only [hk] at h
  obtain ⟨k', n, rfl, h⟩ := intX_ok h
  refine ⟨_, h, fun ρ v hv => ⟨_, rfl, fun w => ?_⟩⟩
  obtain rfl : v = _ := hv
  simp [convert, run_underlying hds, run_underlying (hd.int hk), Conv.intToInt]
 | string =>
  simp only [hk] at h
  obtain ⟨b, rfl, h⟩ := strX_ok h
  refine ⟨_, h, fun ρ v hv => ⟨_, rfl, fun w => ?_⟩⟩
  obtain rfl : v = _ := hv
  cases ds <;> simp [convert, run_underlying hds, run_underlying (hd.string hk)]
 | _ => simp only [hk] at h
def allVal : List SC → (List Value → Prop) → Prop
 | [], K => K []
 | c :: r, K => match c with
  | .val v => allVal r fun l => K (v :: l)
  | _ => False
theorem allVal_ok {l : List SC} {K : List Value → Prop} (h : allVal l K) : ∃ vs, K vs ∧ ∀ ρ ys, All2 (SC.Is ρ) l ys → ys = vs := by
 induction l generalizing K with
 | nil => exact ⟨[], h, fun ρ ys hy => by cases hy; rfl⟩
 | cons c r ih =>
  cases c with
  | val v =>
   obtain ⟨vs, h1, h2⟩ := ih h
   refine ⟨_, h1, fun ρ ys hy => ?_⟩
   cases hy with | cons h3 h4 => rw [h2 ρ _ h4]; obtain rfl := h3; rfl
  | _ => exact h.elim
def wholeX (sv : SV) (K : Value → Prop) : Prop :=
 match sv with
 | .si (.ce (.val v)) => K v
 | .si (.ag l) => allVal l fun vs => K (.agg vs.toArray)
 | _ => False
theorem wholeX_ok {sv : SV} {K : Value → Prop} (h : wholeX sv K) : ∃ v, K v ∧ ∀ ρ y, sv.Is ρ y → y = v := by
 unfold wholeX at h
 split at h
 ·exact ⟨_, h, fun ρ y hy => hy⟩
 ·obtain ⟨vs, h1, h2⟩ := allVal_ok h
  refine ⟨_, h1, fun ρ y hy => ?_⟩
  obtain ⟨ys, rfl, h3⟩ := hy
  rw [h2 ρ _ h3]
 ·exact h.elim
def notIfc (k : TK) (K : Prop) : Prop :=
 match k with
 | .ifc => False
 | _ => K
theorem notIfc_ok {k : TK} {K : Prop} (h : notIfc k K) : k ≠ .ifc ∧ K := by cases k <;> first | exact h.elim | exact ⟨by simp, h⟩
theorem run_makeInterface {t : TypeId} {ti : TI} (ht : TOk P t ti) (hk : ti.k ≠ .ifc) (v : Value) (w : World) : (Instr.makeInterface t v).run P w = .ok (.iface t v) w := by
 obtain ⟨d, hd, hn⟩ := ht.notIface hk
 cases d <;> first | exact absurd rfl (hn _) | simp [Instr.makeInterface, run_underlying hd]

def boundX (x : Option Operand) (F : Fr) (d : Int) (K : Int → Prop) : Prop :=
 match x with
 | none => K d
 | some x => evX x F fun s => intX s fun _ n => K n
def sliceVX (T : Tab) (t : TypeId) (sx : SV) (lo : Int) (hi : Option Int) (G : List SB) (K : SV → Prop) : Prop :=
 tabX T t fun ti => match ti.k with
  | .string => strX sx fun s => match hi with
   | none => (0 ≤ lo ∧ lo ≤ (s.size : Int)) ∧ K (pv (.string (s.extract lo.toNat s.size)))
   | some h => (0 ≤ lo ∧ lo ≤ h ∧ h ≤ (s.size : Int)) ∧ K (pv (.string (s.extract lo.toNat h.toNat)))
  | .slice e => tabX T e fun ei => sliceX sx G fun A n c => match hi with
   | none => (0 ≤ lo ∧ lo ≤ (n : Int)) ∧ K (pv (.slice (subA A c lo.toNat ei.size) (n - lo.toNat) (c - lo.toNat)))
   | some h => (0 ≤ lo ∧ lo ≤ h ∧ h ≤ (c : Int)) ∧ K (pv (.slice (subA A c lo.toNat ei.size) (h.toNat - lo.toNat) (c - lo.toNat)))
  | _ => False
end
end Go.Kx
namespace Go.Kx
open Go.RowKit

section
variable {P : Program}
theorem run_bound {n : Int} {y : Nat} {k : IntKind} {c : BoundsCode} (h : 0 ≤ n ∧ n ≤ (y : Int)) (w : World) : (Instr.sliceBound (.int k n) y c).run P w = .ok n.toNat w := by
 simp [Instr.sliceBound, asIntOf, h]
theorem sliceVX_ok {T : Tab} (hT : TabOk P T) {t : TypeId} {sx : SV} {lo : Int} {hi : Option Int} {H : Hp} {G : List SB} {K : SV → Prop} (h : sliceVX T t sx lo hi G K) :
  ∃ sv, K sv ∧ ∀ ρ wc v, Sw ρ H G wc → sx.Is ρ v → ∃ r, sv.Is ρ r ∧ ∀ (w : World) (vl vh : Option Value), (match vl with | none => lo = 0 | some l => ∃ k, l = .int k lo) → (match vh, hi with | none, none => True | some u, some h => ∃ k, u = .int k h | _, _ => False) →
   (Instr.sliceAt t v vl vh none).run P w = .ok r w := by
 obtain ⟨ti, ht, h⟩ := tabX_ok hT h
 cases hk : ti.k with
 | string =>
  simp only [hk] at h
  obtain ⟨s, rfl, h⟩ := strX_ok h
  cases hi with
  | none =>
   obtain ⟨⟨h1, h2⟩, h⟩ := h
   refine ⟨_, h, fun ρ wc v _ hv => ⟨_, rfl, fun w vl vh hl hh => ?_⟩⟩
   obtain rfl : v = _ := hv
   cases vh with
   | some u => exact hh.elim
   | none =>
    cases vl with
    | none =>
     obtain rfl : lo = 0 := hl
     simp [Instr.sliceAt, Instr.slice, Instr.sliceBounds, run_underlying (ht.string hk)]
    | some l =>
     obtain ⟨k, rfl⟩ := hl
     simp [Instr.sliceAt, Instr.slice, Instr.sliceBounds, run_underlying (ht.string hk), run_bound (P := P) ⟨h1, h2⟩]
  | some u =>
   obtain ⟨⟨h1, h2, h3⟩, h⟩ := h
   have h4 : 0 ≤ u ∧ u ≤ (s.size : Int) := ⟨by omega, h3⟩
   have h5 : 0 ≤ lo ∧ lo ≤ (u.toNat : Int) := ⟨h1, by omega⟩
   refine ⟨_, h, fun ρ wc v _ hv => ⟨_, rfl, fun w vl vh hl hh => ?_⟩⟩
   obtain rfl : v = _ := hv
   cases vh with
   | none => exact hh.elim
   | some u' =>
    obtain ⟨k', rfl⟩ := hh
    cases vl with
    | none =>
     obtain rfl : lo = 0 := hl
     simp [Instr.sliceAt, Instr.slice, Instr.sliceBounds, run_underlying (ht.string hk), run_bound (P := P) h4]
    | some l =>
     obtain ⟨k, rfl⟩ := hl
     simp [Instr.sliceAt, Instr.slice, Instr.sliceBounds, run_underlying (ht.string hk), run_bound (P := P) h4, run_bound (P := P) h5]
 | slice e =>
  simp only [hk] at h
  obtain ⟨ei, he, h⟩ := tabX_ok hT h
  obtain ⟨A, n, c, h, hs⟩ := sliceX_ok h
  cases hi with
  | none =>
   obtain ⟨⟨h1, h2⟩, h⟩ := h
   refine ⟨_, h, fun ρ wc v hw hv => ⟨_, rfl, fun w vl vh hl hh => ?_⟩⟩
   obtain rfl : v = _ := hs ρ H wc v hw hv
   cases vh with
   | some u => exact hh.elim
   | none =>
    cases vl with
    | none =>
     obtain rfl : lo = 0 := hl
     simp [Instr.sliceAt, Instr.slice, Instr.sliceBounds, run_underlying (ht.slice hk), he.sizeOf w, subA]
    | some l =>
     obtain ⟨k, rfl⟩ := hl
     simp [Instr.sliceAt, Instr.slice, Instr.sliceBounds, run_underlying (ht.slice hk), he.sizeOf w, subA, run_bound (P := P) ⟨h1, h2⟩]
  | some u =>
   obtain ⟨⟨h1, h2, h3⟩, h⟩ := h
   have h4 : 0 ≤ u ∧ u ≤ (c : Int) := ⟨by omega, h3⟩
   have h5 : 0 ≤ lo ∧ lo ≤ (u.toNat : Int) := ⟨h1, by omega⟩
   refine ⟨_, h, fun ρ wc v hw hv => ⟨_, rfl, fun w vl vh hl hh => ?_⟩⟩
   obtain rfl : v = _ := hs ρ H wc v hw hv
   cases vh with
   | none => exact hh.elim
   | some u' =>
    obtain ⟨k', rfl⟩ := hh
    cases vl with
    | none =>
     obtain rfl : lo = 0 := hl
     simp [Instr.sliceAt, Instr.slice, Instr.sliceBounds, run_underlying (ht.slice hk), he.sizeOf w, subA, run_bound (P := P) h4]
    | some l =>
     obtain ⟨k, rfl⟩ := hl
     simp [Instr.sliceAt, Instr.slice, Instr.sliceBounds, run_underlying (ht.slice hk), he.sizeOf w, subA, run_bound (P := P) h4, run_bound (P := P) h5]
 | _ => simp only [hk] at h

def lenX (T : Tab) (t : TypeId) (sx : SV) (G : List SB) (K : SV → Prop) : Prop :=
 tabX T t fun ti => match ti.k with
  | .string => strX sx fun s => K (pv (.int .i64 s.size))
  | .slice _ => match sx with
   | .si (.ce (.val (.slice _ n _))) => K (pv (.int .i64 n))
   | .si (.ce (.cut _ _ _ n)) => K (pv (.int .i64 n))
   | .si (.ce (.self k)) => getG G k fun s => match s with
    | .frz (.slice _ n _) => K (pv (.int .i64 n))
    | .row _ _ n _ => K (pv (.int .i64 n))
    | .byt _ n _ => K (pv (.int .i64 n))
    | _ => False
   | _ => False
  | .map _ _ => match sx with
   | .si (.ce (.self k)) => getG G k fun s => match s with
    | .map _ n _ => K (pv (.int .i64 n))
    | _ => False
   | _ => False
  | .ar n _ _ => K (pv (.int .i64 n))
  | _ => False
theorem lenX_ok {T : Tab} (hT : TabOk P T) {t : TypeId} {sx : SV} {H : Hp} {G : List SB} {K : SV → Prop} (h : lenX T t sx G K) :
  ∃ sv, K sv ∧ ∀ ρ wc v, Sw ρ H G wc → sx.Is ρ v → ∃ r, sv.Is ρ r ∧ ∀ (w : World) (ty : TypeId), Sw ρ H G w → (Builtin.len_ #[t] ty #[v]).run P w = .ok r w := by
 obtain ⟨ti, ht, h⟩ := tabX_ok hT h
 cases hk : ti.k with
 | string =>
  simp only [hk] at h
  obtain ⟨s, rfl, h⟩ := strX_ok h
  refine ⟨_, h, fun ρ wc v _ hv => ⟨_, rfl, fun w ty _ => ?_⟩⟩
  obtain rfl : v = _ := hv
  simp [Builtin.len_, run_underlying (ht.string hk), goInt]
 | slice e =>
  simp only [hk] at h
  split at h
  ·refine ⟨_, h, fun ρ wc v _ hv => ⟨_, rfl, fun w ty _ => ?_⟩⟩
   obtain rfl : v = _ := hv
   simp [Builtin.len_, run_underlying (ht.slice hk), goInt]
  ·refine ⟨_, h, fun ρ wc v _ hv => ?_⟩
   obtain ⟨r, _, hv⟩ := hv
   obtain ⟨A, n, cap, _, _, rfl⟩ := cutV_slice hv
   exact ⟨_, rfl, fun w ty _ => by simp [Builtin.len_, run_underlying (ht.slice hk), goInt]⟩
  ·rename_i k
   obtain ⟨s, hs, h⟩ := getG_ok h
   split at h
   ·refine ⟨_, h, fun ρ wc v hw hv => ⟨_, rfl, fun w ty _ => ?_⟩⟩
    have hv' : ρ[_]? = some v := hv
    obtain rfl : v = _ := hw.ok _ _ v hs hv'
    simp [Builtin.len_, run_underlying (ht.slice hk), goInt]
   ·refine ⟨_, h, fun ρ wc v hw hv => ⟨_, rfl, fun w ty _ => ?_⟩⟩
    have hv' : ρ[_]? = some v := hv
    rcases (hw.ok _ _ v hs hv').2 with ⟨rfl, rfl⟩ | ⟨g, oo, cap, cur, rfl, _⟩ <;> simp [Builtin.len_, run_underlying (ht.slice hk), goInt]
   ·refine ⟨_, h, fun ρ wc v hw hv => ⟨_, rfl, fun w ty _ => ?_⟩⟩
    have hv' : ρ[_]? = some v := hv
    obtain ⟨_, g, cap, cur, fz, rfl, _⟩ := hw.ok _ _ v hs hv'
    simp [Builtin.len_, run_underlying (ht.slice hk), goInt]
   ·exact h.elim
  ·exact h.elim
 | map a e =>
  simp only [hk] at h
  split at h
  ·rename_i k
   obtain ⟨s, hs, h⟩ := getG_ok h
   split at h
   ·rename_i es clock
    refine ⟨_, h, fun ρ wc v hw hv => ⟨_, rfl, fun w ty hw' => ?_⟩⟩
    have hv' : ρ[_]? = some v := hv
    obtain ⟨g, es, clock, rfl, hh, hm⟩ := hw'.ok _ _ v hs hv'
    simp [Builtin.len_, run_underlying (ht.map hk), goInt, getObj, Sem.run, hh, hm.size]
   ·exact h.elim
  ·exact h.elim
 | ar n e sz =>
  simp only [hk] at h
  refine ⟨_, h, fun ρ wc v hw hv => ⟨_, rfl, fun w ty hw' => ?_⟩⟩
  simp [Builtin.len_, run_underlying (ht.array hk).1, goInt]
 | _ => simp only [hk] at h
def mmX (mx : Bool) : List SV → (IntKind → Int → Prop) → Prop
 | [], _ => False
 | [s], K => intX s K
 | s :: r, K => intX s fun k n => mmX mx r fun _ m => K k (match mx with
  | true => maxB n m
  | false => minB n m)
def mm2 (mx : Bool) (a b : SV) (K : SV → Prop) : Prop :=
 intX a fun k n => intX b fun _ m => match mx with
  | true => K (pv (.int k (maxB n m)))
  | false => K (pv (.int k (minB n m)))
theorem mm2_ok {mx : Bool} {a b : SV} {K : SV → Prop} (h : mm2 mx a b K) : ∃ sv, K sv ∧ ∀ ρ u v, a.Is ρ u → b.Is ρ v → ∃ r, sv.Is ρ r ∧ ∀ (w : World) (ts : Array TypeId) (ty : TypeId), (match mx with | true => Builtin.max_ ts ty #[u, v] | false => Builtin.min_ ts ty #[u, v]).run P w = .ok r w := by
 obtain ⟨k, n, rfl, h1⟩ := intX_ok h
 clear h
 obtain ⟨k', m, rfl, h⟩ := intX_ok h1
 clear h1
 cases mx with
 | true =>
  refine ⟨_, h, fun ρ u v hu hv => ⟨_, rfl, fun w ts ty => ?_⟩⟩
  obtain rfl : u = _ := hu
  obtain rfl : v = _ := hv
  simp [Builtin.max_, Builtin.max2, maxB]
 | false =>
  refine ⟨_, h, fun ρ u v hu hv => ⟨_, rfl, fun w ts ty => ?_⟩⟩
  obtain rfl : u = _ := hu
  obtain rfl : v = _ := hv
  simp [Builtin.min_, Builtin.min2, minB]

def nilChk (sx : SV) (K : SV → Prop) : Prop :=
 match sx with
 | .si (.ce c) => match c with
  | .ptr _ _ => K sx
  | .pp A _ => (∃ b o, A = some ⟨b, o, none⟩) ∧ K sx
  | .fn (.func _) _ _ => K sx
  | .val (.pointer (some _)) => K sx
  | .val (.func (.func _) _ _) => K sx
  | _ => False
 | _ => False
theorem nilChk_ok {sx : SV} {K : SV → Prop} (h : nilChk sx K) : K sx ∧ ∀ ρ v, sx.Is ρ v → (∃ a, v = .pointer (some a)) ∨ ∃ f x y, v = .func (.func f) x y := by
 unfold nilChk at h
 split at h
 ·split at h
  ·refine ⟨h, fun ρ v hv => .inl ?_⟩
   obtain ⟨r, _, hp⟩ := hv
   unfold ptrAt at hp
   split at hp <;> first | (injection hp with hp; exact ⟨_, hp.symm⟩) | cases hp
  ·obtain ⟨⟨b, o, rfl⟩, h⟩ := h
   exact ⟨h, fun ρ v hv => .inl ⟨_, hv⟩⟩
  ·refine ⟨h, fun ρ v hv => .inr ?_⟩
   obtain ⟨ys, rfl, _⟩ := hv
   exact ⟨_, _, _, rfl⟩
  ·exact ⟨h, fun ρ v hv => .inl ⟨_, hv⟩⟩
  ·exact ⟨h, fun ρ v hv => .inr ⟨_, _, _, hv⟩⟩
  ·exact h.elim
 ·exact h.elim

def placesX (ti : TI) (K : Places → Prop) : Prop :=
 match ti.k with
 | .st fs => K (.st fs)
 | .ar _ _ sz => K (.ar sz)
 | _ => False
theorem built_of {t : TypeId} {ti : TI} (ht : TOk P t ti) {pl : Places} {K : Places → Prop} (hp : placesX ti K) : ∃ pl : Places, K pl ∧ ∀ (qs : List (Nat × Value)) (ys' : List Value), Instr.fill pl.fn (ti.zero.map Z.val).toArray qs = some ys'.toArray → P.built t qs = some ys'.toArray := by
 have _ := pl
 obtain ⟨i, z, hi, hs, hb, hz, hzc⟩ := ht.info
 have hzz : z.cells = (ti.zero.map Z.val).toArray := by rw [← hzc]
 unfold placesX at hp
 cases hk : ti.k with
 | st fs =>
  simp only [hk] at hp
  refine ⟨_, hp, fun qs ys' hq => ?_⟩
  obtain ⟨fields, hu, hf⟩ := ht.struct hk
  have hmap : fields.toList.mapM (fun f => (P.info? f.type).map fun i => (f.offset, i.size)) = some (fs.map fun x => (x.1, x.2.2)) := by
   clear hp hu hk hq
   generalize fields.toList = l at hf
   induction l generalizing fs with
   | nil => simp at hf; subst hf; rfl
   | cons f l ih =>
    rw [List.mapM_cons] at hf
    cases hif : P.info? f.type with
    | none => simp [hif] at hf
    | some j =>
     cases hl : l.mapM (fun f => (P.info? f.type).map fun i => (f.offset, f.type, i.size)) with
     | none => simp [hif, hl] at hf
     | some r =>
      simp [hif, hl] at hf
      subst hf
      rw [List.mapM_cons, hif, ih r hl]; rfl
  have hfn : (Places.st fs).fn = fun x => ((fs.map fun x => (x.1, x.2.2)).toArray)[x]? := by
   funext j; simp [Places.fn]
  rw [hfn] at hq
  simp only [Program.built, hi, hu, hz, hmap]
  rw [hzz]; exact hq
 | ar n e sz =>
  simp only [hk] at hp
  refine ⟨_, hp, fun qs ys' hq => ?_⟩
  obtain ⟨hu, j, hj, hjs⟩ := ht.array hk
  simp only [Program.built, hi, hu, hz, hj]
  rw [hzz, hjs]
  exact hq
 | _ => simp only [hk] at hp

def bQ (P : Program) (T : Tab) (o : Oper) (b : Builtin) (args : List Operand) (ts : List TypeId) (F : Fr) (H : Hp) (G : List SB) (K : SV → Prop) : Prop :=
 match b with
 | .len => match args, ts with
  | [x], [t] => evX x F fun sx => lenX T t sx G K
  | _, _ => False
 | .max => match args with
  | [x, y] => evX x F fun sx => evX y F fun sy => mm2 true sx sy K
  | _ => QO P o F H G K
 | .min => match args with
  | [x, y] => evX x F fun sx => evX y F fun sy => mm2 false sx sy K
  | _ => QO P o F H G K
 | _ => QO P o F H G K
def agOr (sy : SV) (A B : Prop) : Prop :=
 match sy with
 | .si (.ag _) => A
 | _ => B
theorem agOr_ok {sy : SV} {A B : Prop} (h : agOr sy A B) : A ∨ B := by
 unfold agOr at h
 split at h
 ·exact .inl h
 ·exact .inr h
def opQ (P : Program) (T : Tab) (o : Oper) (F : Fr) (H : Hp) (G : List SB) (K : SV → Prop) : Prop :=
 match o.op with
 | .move x => evX x F K
 | .assign x => evX x F K
 | .pick c a b => evX c F fun sc => boolX sc fun t => match t with
  | true => evX a F K
  | false => evX b F K
 | .load t x => evX x F fun sx => cellX sx fun c => tabX T t fun ti => loadX ti c H G K
 | .fieldAddr s x f => evX x F fun sx => cellX sx fun c => tabX T s fun ti => structX ti fun fs => fieldX fs f fun d _ n => pos n (offX c d K)
 | .indexAddr t x i => evX x F fun sx => evX i F fun si => intX si fun _ n => tabX T t fun ti => idxAddrX T ti sx n G K
 | .index t x i => evX x F fun sx => evX i F fun si => intX si fun _ n => tabX T t fun ti => idxX T ti sx n K
 | .field t x f => evX x F fun sx => aggX sx fun cs => tabX T t fun ti => structX ti fun fs => fieldX fs f fun d ft _ => partX ft T cs d K
 | .extract x i => evX x F fun sx => tupX sx fun l => getS l i fun g => K (.si g)
 | .build t parts => tabX T t fun ti => placesX ti fun pl => zerosX ti.zero fun zs => evP parts.toList F fun ps => fillX G pl zs ps fun cs => K (.si (.ag cs))
 | .binOp op t x y _ => evX x F fun sx => evX y F fun sy => agOr sy (QO P o F H G K) (binG T op t sx y sy G K)
 | .unOp op _ x => evX x F fun sx => unX op sx K
 | .convert s d x => evX x F fun sx => convX T s d sx K
 | .makeInterface t x => evX x F fun sx => tabX T t fun ti => notIfc ti.k <| wholeX sx fun v => K (pv (.iface t v))
 | .makeFunc fn first caps => evL first.toList F fun s1 => evL caps.toList F fun s2 => capsX s1 fun l1 => capsX s2 fun l2 => K (.si (.ce (.fn fn l1.length (l1 ++ l2))))
 | .nilCheck x => evX x F fun sx => nilChk sx K
 | .slice t x lo hi mx => match mx with
  | none => evX x F fun sx => boundX lo F 0 fun l => match hi with
   | none => sliceVX T t sx l none G K
   | some h => evX h F fun sh => intX sh fun _ h => sliceVX T t sx l (some h) G K
  | some _ => False
 | .call c => match c.callee with
  | .builtin b => bQ P T o b c.args.toList c.argTypes.toList F H G K
  | _ => False
 | _ => QO P o F H G K

theorem bQ_ok {T : Tab} (hT : TabOk P T) {o : Oper} {b : Builtin} {args : Array Operand} {ts : Array TypeId} (ho : o.op = .call ⟨.builtin b, args, ts⟩) {F : Fr} {H : Hp} {G : List SB} {K : SV → Prop} (h : bQ P T o b args.toList ts.toList F H G K) : QO P o F H G K := by
 have hb : ∀ (a : Act) (w : World), (execOp a.eval o).run P w = (builtin b ts o.type (args.map fun | .const _ => true | _ => false) (args.map a.eval)).run P w := fun a w => by
  simp [execOp, ho, resolve, invoke]
  rfl
 cases b with
 | len =>
  simp only [bQ] at h
  split at h
  ·rename_i x t ha ht
   obtain ⟨sx, h, hx⟩ := evX_ok h
   obtain ⟨sv, h, hs⟩ := lenX_ok (H := H) hT h
   refine ⟨sv, h, fun ρ a wc hf hw => ?_⟩
   obtain ⟨r, h1, h2⟩ := hs ρ wc _ hw (hx ρ a hf)
   refine ⟨r, h1, fun w hw' => ?_⟩
   have e1 : args = #[x] := by rw [← ha]
   have e2 : ts = #[t] := by rw [← ht]
   subst e1 e2
   rw [hb]
   simp [builtin, h2 w o.type hw']
  ·exact h.elim
 | max =>
  simp only [bQ] at h
  split at h
  ·rename_i x y ha
   obtain ⟨sx, h, hx⟩ := evX_ok h
   obtain ⟨sy, h, hy⟩ := evX_ok h
   obtain ⟨sv, h, hs⟩ := mm2_ok (P := P) h
   refine ⟨sv, h, fun ρ a wc hf hw => ?_⟩
   obtain ⟨r, h1, h2⟩ := hs ρ _ _ (hx ρ a hf) (hy ρ a hf)
   refine ⟨r, h1, fun w hw' => ?_⟩
   have e1 : args = #[x, y] := by rw [← ha]
   subst e1
   rw [hb]
   have := h2 w ts o.type
   simp only [builtin, Sem.run_bind]
   simp at this
   simp [this]
  ·exact h
 | min =>
  simp only [bQ] at h
  split at h
  ·rename_i x y ha
   obtain ⟨sx, h, hx⟩ := evX_ok h
   obtain ⟨sy, h, hy⟩ := evX_ok h
   obtain ⟨sv, h, hs⟩ := mm2_ok (P := P) h
   refine ⟨sv, h, fun ρ a wc hf hw => ?_⟩
   obtain ⟨r, h1, h2⟩ := hs ρ _ _ (hx ρ a hf) (hy ρ a hf)
   refine ⟨r, h1, fun w hw' => ?_⟩
   have e1 : args = #[x, y] := by rw [← ha]
   subst e1
   rw [hb]
   have := h2 w ts o.type
   simp only [builtin, Sem.run_bind]
   simp at this
   simp [this]
  ·exact h
 | _ => exact h

theorem opQ_ok {T : Tab} (hT : TabOk P T) {o : Oper} {F : Fr} {H : Hp} {G : List SB} {K : SV → Prop} (h : opQ P T o F H G K) : QO P o F H G K := by
 unfold opQ at h
 cases ho : o.op with
 | move x =>
  simp only [ho] at h
  obtain ⟨sv, h, hx⟩ := evX_ok h
  exact ⟨sv, h, fun ρ a wc hf _ => ⟨_, hx ρ a hf, fun w _ => by simp [execOp, ho]⟩⟩
 | assign x =>
  simp only [ho] at h
  obtain ⟨sv, h, hx⟩ := evX_ok h
  exact ⟨sv, h, fun ρ a wc hf _ => ⟨_, hx ρ a hf, fun w _ => by simp [execOp, ho]⟩⟩
 | pick c x y =>
  simp only [ho] at h
  obtain ⟨sc, h, hc⟩ := evX_ok h
  obtain ⟨t, rfl, h⟩ := boolX_ok h
  cases t with
  | true =>
   obtain ⟨sv, h, hx⟩ := evX_ok h
   refine ⟨sv, h, fun ρ a wc hf _ => ⟨_, hx ρ a hf, fun w _ => ?_⟩⟩
   have := hc ρ a hf
   have hcv : a.eval c = .bool true := this
   simp [execOp, ho, hcv, asBool]
  | false =>
   obtain ⟨sv, h, hx⟩ := evX_ok h
   refine ⟨sv, h, fun ρ a wc hf _ => ⟨_, hx ρ a hf, fun w _ => ?_⟩⟩
   have hcv : a.eval c = .bool false := hc ρ a hf
   simp [execOp, ho, hcv, asBool]
 | load t x =>
  simp only [ho] at h
  obtain ⟨sx, h, hx⟩ := evX_ok h
  obtain ⟨c, rfl, h⟩ := cellX_ok h
  obtain ⟨ti, ht, h⟩ := tabX_ok hT h
  obtain ⟨sv, h, hl⟩ := loadX_ok ht h
  refine ⟨sv, h, fun ρ a wc hf hw => ?_⟩
  obtain ⟨v, h1, h2⟩ := hl ρ wc _ hw (hx ρ a hf)
  exact ⟨v, h1, fun w hw' => by simp [execOp, ho, h2 w hw']⟩
 | fieldAddr s x f =>
  simp only [ho] at h
  obtain ⟨sx, h, hx⟩ := evX_ok h
  obtain ⟨c, rfl, h⟩ := cellX_ok h
  obtain ⟨ti, ht, h⟩ := tabX_ok hT h
  obtain ⟨fs, hk, h⟩ := structX_ok h
  obtain ⟨d, ft, n, hfs, h⟩ := fieldX_ok h
  obtain ⟨hn, h⟩ := pos_ok h
  obtain ⟨sv, h, hp⟩ := offX_ok h
  refine ⟨sv, h, fun ρ a wc hf hw => ?_⟩
  obtain ⟨ad, h1, h2⟩ := hp ρ _ (hx ρ a hf)
  refine ⟨_, h2, fun w _ => ?_⟩
  obtain ⟨fields, fd, i, e1, e2, e3, e4, e5, e6⟩ := ht.field hk hfs
  have e7 : (sizeOf ft).run P w = .ok n w := by simp [sizeOf, typeInfo, e5, e6]
  simp [execOp, ho, Instr.fieldAt, run_underlying e1, e2, h1, Instr.sureAddr, fieldPlace, e3, e4, e7, hn]
 | indexAddr t x i =>
  simp only [ho] at h
  obtain ⟨sx, h, hx⟩ := evX_ok h
  obtain ⟨si, h, hi⟩ := evX_ok h
  obtain ⟨k, n, rfl, h⟩ := intX_ok h
  obtain ⟨ti, ht, h⟩ := tabX_ok hT h
  obtain ⟨sv, h, hs⟩ := idxAddrX_ok (kk := k) (H := H) hT ht h
  refine ⟨sv, h, fun ρ a wc hf hw => ?_⟩
  obtain ⟨v, h1, h2⟩ := hs ρ wc _ hw (hx ρ a hf)
  have hiv : a.eval i = .int k n := hi ρ a hf
  exact ⟨v, h1, fun w _ => by simp [execOp, ho, hiv, h2 w]⟩
 | index t x i =>
  simp only [ho] at h
  obtain ⟨sx, h, hx⟩ := evX_ok h
  obtain ⟨si, h, hi⟩ := evX_ok h
  obtain ⟨k, n, rfl, h⟩ := intX_ok h
  obtain ⟨ti, ht, h⟩ := tabX_ok hT h
  obtain ⟨sv, h, hs⟩ := idxX_ok (kk := k) hT ht h
  refine ⟨sv, h, fun ρ a wc hf hw => ?_⟩
  obtain ⟨v, h1, h2⟩ := hs ρ _ (hx ρ a hf)
  have hiv : a.eval i = .int k n := hi ρ a hf
  exact ⟨v, h1, fun w _ => by simp [execOp, ho, hiv, h2 w]⟩
 | field t x f =>
  simp only [ho] at h
  obtain ⟨sx, h, hx⟩ := evX_ok h
  obtain ⟨cs, rfl, h⟩ := aggX_ok h
  obtain ⟨ti, ht, h⟩ := tabX_ok hT h
  obtain ⟨fs, hk, h⟩ := structX_ok h
  obtain ⟨d, ft, n, hfs, h⟩ := fieldX_ok h
  obtain ⟨sv, h, hp⟩ := partX_ok hT h
  refine ⟨sv, h, fun ρ a wc hf hw => ?_⟩
  obtain ⟨ys, hv, hys⟩ := hx ρ a hf
  obtain ⟨v, h1, h2⟩ := hp ρ ys hys
  refine ⟨v, h1, fun w _ => ?_⟩
  obtain ⟨fields, fd, i, e1, e2, e3, e4, e5, e6⟩ := ht.field hk hfs
  simp [execOp, ho, Instr.field, run_underlying e1, e2, hv, asAgg, e3, e4, h2 w]
 | extract x i =>
  simp only [ho] at h
  obtain ⟨sx, h, hx⟩ := evX_ok h
  obtain ⟨l, rfl, h⟩ := tupX_ok h
  obtain ⟨g, hg, h⟩ := getS_ok h
  refine ⟨_, h, fun ρ a wc hf hw => ?_⟩
  obtain ⟨ys, hv, hys⟩ := hx ρ a hf
  obtain ⟨y, hy, hgy⟩ := hys.get hg
  exact ⟨y, hgy, fun w _ => by simp [execOp, ho, hv, Instr.extract, hy]⟩
 | build t parts =>
  simp only [ho] at h
  obtain ⟨ti, ht, h⟩ := tabX_ok hT h
  obtain ⟨pl, h, hb⟩ := built_of (pl := .ar 0) ht h
  obtain ⟨zs, h, hz⟩ := zerosX_ok h
  obtain ⟨ps, h, hps⟩ := evP_ok h
  obtain ⟨cs, h, hfill⟩ := fillX_ok h
  refine ⟨_, h, fun ρ a wc hf hw => ?_⟩
  obtain ⟨ys', h1, h2⟩ := hfill ρ H wc _ _ hw (hz ρ) (hps ρ a hf)
  refine ⟨_, ⟨ys', rfl, h2⟩, fun w _ => ?_⟩
  have := run_build (P := P) w t (parts.map fun (i, x) => (i, a.eval x)) ys'.toArray (by rw [Array.toList_map]; exact hb _ _ h1)
  simp [execOp, ho, this]
 | binOp op t x y ty =>
  simp only [ho] at h
  obtain ⟨sx, h, hx⟩ := evX_ok h
  obtain ⟨sy, h, hy⟩ := evX_ok h
  rcases agOr_ok h with h | h
  ·exact h
  obtain ⟨sv, h, hs⟩ := binG_ok hT h
  refine ⟨sv, h, fun ρ a wc hf hw => ?_⟩
  obtain ⟨r, h1, h2⟩ := hs ρ _ _ (hx ρ a hf) (hy ρ a hf) ⟨_, _, hw⟩
  refine ⟨r, h1, fun w _ => ?_⟩
  have e : execOp a.eval o = (do pure (.value (← ((do eqGuard op t x y (a.eval x) (a.eval y); binOp op t (a.eval x) (a.eval y)) : Sem Value)))) := by simp only [execOp, ho]
  rw [e, Sem.run_bind, h2 x w]
  rfl
 | unOp op t x =>
  simp only [ho] at h
  obtain ⟨sx, h, hx⟩ := evX_ok h
  obtain ⟨sv, h, hs⟩ := unX_ok (P := P) h
  refine ⟨sv, h, fun ρ a wc hf hw => ?_⟩
  obtain ⟨r, h1, h2⟩ := hs ρ _ (hx ρ a hf)
  exact ⟨r, h1, fun w _ => by simp [execOp, ho, h2 w]⟩
 | convert s d x =>
  simp only [ho] at h
  obtain ⟨sx, h, hx⟩ := evX_ok h
  obtain ⟨sv, h, hs⟩ := convX_ok hT h
  refine ⟨sv, h, fun ρ a wc hf hw => ?_⟩
  obtain ⟨r, h1, h2⟩ := hs ρ _ (hx ρ a hf)
  exact ⟨r, h1, fun w _ => by simp [execOp, ho, h2 w]⟩
 | makeInterface t x =>
  simp only [ho] at h
  obtain ⟨sx, h, hx⟩ := evX_ok h
  obtain ⟨ti, ht, h⟩ := tabX_ok hT h
  obtain ⟨hk, h⟩ := notIfc_ok h
  obtain ⟨v, h, hv⟩ := wholeX_ok h
  refine ⟨_, h, fun ρ a wc hf hw => ⟨_, rfl, fun w _ => ?_⟩⟩
  rw [← hv ρ _ (hx ρ a hf)]
  simp [execOp, ho, run_makeInterface ht hk]
 | makeFunc fn first caps =>
  simp only [ho] at h
  obtain ⟨s1, h, h1⟩ := evL_ok h
  obtain ⟨s2, h, h2⟩ := evL_ok h
  obtain ⟨l1, h, h3⟩ := capsX_ok h
  obtain ⟨l2, h, h4⟩ := capsX_ok h
  refine ⟨_, h, fun ρ a wc hf hw => ?_⟩
  have e1 := h3 ρ _ (h1 ρ a hf)
  have e2 := h4 ρ _ (h2 ρ a hf)
  refine ⟨_, ⟨_, rfl, e1.append e2⟩, fun w _ => ?_⟩
  have e3 : l1.length = (first.toList.map a.eval).length := e1.length
  rw [e3, List.take_left, List.drop_left]
  have ea : ∀ xs : Array Operand, (xs.toList.map a.eval).toArray = xs.map a.eval := fun xs => by rw [← Array.toList_map]
  simp [execOp, ho, Instr.makeFunc, ea]
 | nilCheck x =>
  simp only [ho] at h
  obtain ⟨sx, h, hx⟩ := evX_ok h
  obtain ⟨h, hn⟩ := nilChk_ok h
  refine ⟨_, h, fun ρ a wc hf hw => ⟨_, hx ρ a hf, fun w _ => ?_⟩⟩
  rcases hn ρ _ (hx ρ a hf) with ⟨ad, e⟩ | ⟨f, p, q, e⟩ <;> simp [execOp, ho, e]
 | slice t x lo hi mx =>
  simp only [ho] at h
  cases mx with
  | some _ => exact h.elim
  | none =>
   obtain ⟨sx, h1, hx⟩ := evX_ok h
   clear h
   have hlo : ∀ {K' : Int → Prop}, boundX lo F 0 K' → ∃ l : Int, (∀ ρ (a : Act), FOk ρ F a.tmps → match lo.map a.eval with | none => l = 0 | some u => ∃ k, u = .int k l) ∧ K' l := by
    intro K' h
    cases lo with
    | none => exact ⟨0, fun _ _ _ => rfl, h⟩
    | some u =>
     obtain ⟨su, h, hu⟩ := evX_ok h
     obtain ⟨k, n, rfl, h⟩ := intX_ok h
     exact ⟨n, fun ρ a hf => ⟨k, hu ρ a hf⟩, h⟩
   obtain ⟨l, hl, h2⟩ := hlo h1
   clear h1 hlo
   cases hi with
   | none =>
    obtain ⟨sv, h, hs⟩ := sliceVX_ok (H := H) hT h2
    refine ⟨sv, h, fun ρ a wc hf hw => ?_⟩
    obtain ⟨r, h1, h2⟩ := hs ρ wc _ hw (hx ρ a hf)
    refine ⟨r, h1, fun w _ => ?_⟩
    have := h2 w (lo.map a.eval) none (hl ρ a hf) trivial
    simp [execOp, ho, this]
   | some u =>
    obtain ⟨su, h3, hu⟩ := evX_ok h2
    obtain ⟨k, n, rfl, h4⟩ := intX_ok h3
    obtain ⟨sv, h, hs⟩ := sliceVX_ok (H := H) hT h4
    refine ⟨sv, h, fun ρ a wc hf hw => ?_⟩
    obtain ⟨r, h1, h2⟩ := hs ρ wc _ hw (hx ρ a hf)
    refine ⟨r, h1, fun w _ => ?_⟩
    have := h2 w (lo.map a.eval) (some (a.eval u)) (hl ρ a hf) ⟨k, hu ρ a hf⟩
    simp [execOp, ho, this]
 | call c =>
  simp only [ho] at h
  obtain ⟨callee, args, ts⟩ := c
  cases callee with
  | builtin b => exact bQ_ok hT ho h
  | _ => exact h.elim
 | _ => simp only [ho] at h; exact h
end
end Go.Kx
