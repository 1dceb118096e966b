/- Quiet operations, whole: one function over all kinds, and that what it tells is so. Generic in the program; no condition of its own. -/
import Derived.Test.YtfchdibbjaeocaaDoorK5
namespace Go.Kx
open Go.RowKit

/-! ### Putting parts into a value -/
/-- The parts, evaluated. -/
def evP : List (Nat × Operand) → Fr → (List (Nat × SV) → Prop) → Prop
  | [], _, K => K []
  | (i, x) :: r, F, K => evX x F fun v => evP r F fun l => K ((i, v) :: l)
theorem evP_ok {xs : List (Nat × Operand)} {F : Fr} {K : List (Nat × SV) → Prop} (h : evP xs F K) :
    ∃ l, K l ∧ ∀ ρ (a : Act), FOk ρ F a.tmps → All2 (fun (p : Nat × SV) (q : Nat × Value) => p.1 = q.1 ∧ p.2.Is ρ q.2) l (xs.map fun (i, x) => (i, a.eval x)) := by
  induction xs generalizing K with
  | nil => exact ⟨[], h, fun _ _ _ => .nil⟩
  | cons x r ih =>
    obtain ⟨i, x⟩ := x
    obtain ⟨v, h1, h2⟩ := evX_ok h
    obtain ⟨l, h3, h4⟩ := ih h1
    exact ⟨_, h3, fun ρ a hf => .cons ⟨rfl, h2 ρ a hf⟩ (h4 ρ a hf)⟩
def natEq (a b : Nat) (K : Prop) : Prop :=
  match Nat.beq a b with
  | true => K
  | false => False
theorem natEq_ok {a b : Nat} {K : Prop} (h : natEq a b K) : a = b ∧ K := by
  unfold natEq at h
  split at h
  · rename_i hb; exact ⟨Nat.eq_of_beq_eq_true hb, h⟩
  · exact h.elim
def lenC : List SC → (Nat → Prop) → Prop
  | [], K => K 0
  | _ :: r, K => lenC r fun n => K (n + 1)
theorem lenC_ok {l : List SC} {K : Nat → Prop} (h : lenC l K) : K l.length := by
  induction l generalizing K with
  | nil => exact h
  | cons c r ih => exact ih h
/-- The places of a struct's fields, of an array's or a row's elements. -/
inductive Places
  | st (fs : List (Nat × TypeId × Nat))
  | ar (sz : Nat)
def Places.at (p : Places) (i : Nat) (K : Nat → Nat → Prop) : Prop :=
  match p with
  | .st fs => fieldX fs i fun o _ n => K o n
  | .ar sz => K (i * sz) sz
def Places.fn : Places → Nat → Option (Nat × Nat)
  | .st fs, i => (fs[i]?).map fun x => (x.1, x.2.2)
  | .ar sz, i => some (i * sz, sz)
theorem Places.at_ok {p : Places} {i : Nat} {K : Nat → Nat → Prop} (h : p.at i K) : ∃ o n, p.fn i = some (o, n) ∧ K o n := by
  cases p with
  | st fs => obtain ⟨o, t, n, h1, h2⟩ := fieldX_ok h; exact ⟨o, n, by simp [Places.fn, h1], h2⟩
  | ar sz => exact ⟨_, _, rfl, h⟩
def fillX (G : List SB) (pl : Places) : List SC → List (Nat × SV) → (List SC → Prop) → Prop
  | cs, [], K => K cs
  | cs, (i, sv) :: r, K => pl.at i fun o n => cellsX sv fun l => lenC l fun m => natEq m n (pos m <| allOne G l (putC cs o l fun cs' => fillX G pl cs' r K))
theorem foldl_set (ys : List Value) : ∀ (cells : Array Value) (o k : Nat), o + k + ys.length ≤ cells.size →
    ((ys.zipIdx k).foldl (fun cs (c, j) => cs.setIfInBounds (o + j) c) cells) = (splice cells.toList (o + k) ys).toArray := by
  induction ys with
  | nil => intro cells o k _; simp [splice]
  | cons y ys ih =>
    intro cells o k h
    simp only [List.zipIdx_cons, List.foldl_cons]
    rw [ih _ _ _ (by simp at h ⊢; omega)]
    congr 1
    simp only [List.length_cons] at h
    have h0 : o + k < cells.size := by omega
    apply List.ext_getElem?
    intro i
    simp only [splice, Array.toList_setIfInBounds, List.length_cons]
    rcases Nat.lt_trichotomy i (o + k) with hi | hi | hi
    · rw [List.append_assoc, List.append_assoc, List.getElem?_append_left (by simp; omega), List.getElem?_append_left (by simp; omega), List.getElem?_take, List.getElem?_take, if_pos (by omega), if_pos hi, List.getElem?_set_ne (by omega)]
    · subst hi
      rw [List.append_assoc, List.append_assoc, List.getElem?_append_left (by simp; omega), List.getElem?_append_right (by simp; omega), List.getElem?_take, if_pos (by omega)]
      simp [h0, Nat.min_eq_left (Nat.le_of_lt h0)]
    · by_cases hi2 : i < o + k + (ys.length + 1)
      · rw [List.append_assoc, List.append_assoc, List.getElem?_append_right (by simp; omega), List.getElem?_append_left (by simp; omega), List.getElem?_append_right (by simp; omega), List.getElem?_append_left (by simp; omega)]
        have e1 : (List.take (o + (k + 1)) (cells.toList.set (o + k) y)).length = o + k + 1 := by simp; omega
        have e2 : (List.take (o + k) cells.toList).length = o + k := by simp; omega
        rw [e1, e2, show i - (o + k) = (i - (o + k + 1)) + 1 by omega, List.getElem?_cons_succ]
      · rw [List.getElem?_append_right (by simp; omega), List.getElem?_append_right (by simp; omega), List.getElem?_drop, List.getElem?_drop, List.getElem?_set_ne (by simp; omega)]
        congr 1
        simp; omega
theorem fillX_ok {G : List SB} {pl : Places} : ∀ {parts : List (Nat × SV)} {cs : List SC} {K : List SC → Prop}, fillX G pl cs parts K →
    ∃ cs', K cs' ∧ ∀ (ρ : List Value) (H : Hp) (w : World) (ys : List Value) (qs : List (Nat × Value)), Sw ρ H G w → All2 (SC.Is ρ) cs ys → All2 (fun (p : Nat × SV) (q : Nat × Value) => p.1 = q.1 ∧ p.2.Is ρ q.2) parts qs →
      ∃ ys', Instr.fill pl.fn ys.toArray qs = some ys'.toArray ∧ All2 (SC.Is ρ) cs' ys'
  | [], cs, K, h => ⟨cs, h, fun ρ H w ys qs _ hy hq => by cases hq; exact ⟨ys, rfl, hy⟩⟩
  | (i, sv) :: r, cs, K, h => by
    obtain ⟨o, n, h1, h⟩ := Places.at_ok h
    obtain ⟨l, h, h2⟩ := cellsX_ok h
    have h := lenC_ok h
    obtain ⟨h3, h⟩ := natEq_ok h
    obtain ⟨hpos, h⟩ := pos_ok h
    obtain ⟨h, h4⟩ := allOne_ok h
    obtain ⟨l', h, h5, h6⟩ := putC_ok h
    obtain ⟨cs', h, h7⟩ := fillX_ok h
    refine ⟨cs', h, fun ρ H w ys qs hw hy hq => ?_⟩
    cases hq with
    | cons hp hq =>
      rename_i q qs
      obtain ⟨i', v⟩ := q
      obtain ⟨rfl, hv⟩ := hp
      -- the part's cells
      have hcells : ∃ zs, v.cells.toList = zs ∧ All2 (SC.Is ρ) l zs := by
        rcases h2 ρ v hv with ⟨c, rfl, rfl⟩ | ⟨zs, rfl, hz⟩
        · have hone := h4 ρ H w [v] hw (.cons hv .nil) v List.mem_cons_self
          refine ⟨[v], ?_, .cons hv .nil⟩
          cases v <;> first | rfl | cases hone
        · exact ⟨_, rfl, hz⟩
      obtain ⟨zs, hz1, hz2⟩ := hcells
      have hzl := hz2.length
      have hyl := hy.length
      have hzs : v.cells.size = n := by rw [← Array.length_toList, hz1, ← hzl, h3]
      have hob : o + n ≤ ys.length := by
        rcases h5 with rfl | h5
        · exact absurd rfl hpos
        · omega
      have hys' : All2 (SC.Is ρ) l' (splice ys o zs) := by
        rcases h6 with ⟨rfl, rfl⟩ | rfl
        · have : zs = [] := by simpa using hzl.symm
          subst this
          simpa [splice] using hy
        · exact ((hy.take o).append hz2).append (by rw [hzl]; exact hy.drop _)
      obtain ⟨ys', h8, h9⟩ := h7 ρ H w _ qs hw hys' hq
      refine ⟨ys', ?_, h9⟩
      simp only [Instr.fill, h1]
      rw [if_neg (by simp [hzs]; omega)]
      rw [← h8]
      congr 1
      have := foldl_set zs ys.toArray o 0 (by simp; omega)
      simp only [Nat.add_zero] at this
      rw [← this, ← hz1]
      rw [← Array.foldl_toList, Array.toList_zipIdx]
end Go.Kx
