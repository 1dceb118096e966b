/- Scope texts: the program's scopes are the reference's; their text is read as them. No program in sight. -/
import Derived.Test.YtfchdibbjaeocaaDoorScH
namespace Go.Kx.Sco
open Go.Proofs Go.Kx Go.RowKit Go.Sort
set_option maxRecDepth 20000
set_option linter.unusedSimpArgs false
theorem lessB_lt : ∀ (a b : List UInt8), lessB a b = true ↔ a < b
  | a, [] => by cases a <;> simp [lessB]
  | [], b :: s => by simp [lessB]
  | a :: r, b :: s => by
    have ih := lessB_lt r s
    rw [lessB, List.cons_lt_cons_iff]
    simp only [Bool.or_eq_true, Bool.and_eq_true, Nat.blt_eq, Nat.beq_eq, ih, UInt8.lt_iff_toNat_lt]
    constructor
    · rintro (h | ⟨h, h2⟩)
      · exact .inl h
      · exact .inr ⟨UInt8.toNat_inj.1 h, h2⟩
    · rintro (h | ⟨h, h2⟩)
      · exact .inl h
      · exact .inr ⟨by rw [h], h2⟩
/-- Texts that rise. -/
def Up (l : List (List UInt8)) : Prop := l.Pairwise (· < ·)
theorem lt_irr (a : List UInt8) : ¬ a < a := List.lt_irrefl a
theorem Up.ext : ∀ {l m : List (List UInt8)}, Up l → Up m → (∀ x, x ∈ l ↔ x ∈ m) → l = m
  | [], [], _, _, _ => rfl
  | [], b :: m, _, _, h => by have := (h b).2 (by simp); simp at this
  | a :: l, [], _, _, h => by have := (h a).1 (by simp); simp at this
  | a :: l, b :: m, hl, hm, h => by
    have hl' := List.pairwise_cons.1 hl
    have hm' := List.pairwise_cons.1 hm
    have hab : a = b := by
      rcases List.mem_cons.1 ((h a).1 (by simp)) with e | e
      · exact e
      · rcases List.mem_cons.1 ((h b).2 (by simp)) with e2 | e2
        · exact e2.symm
        · exact absurd (List.lt_trans (hm'.1 a e) (hl'.1 b e2)) (List.lt_irrefl b)
    subst hab
    congr 1
    refine Up.ext hl'.2 hm'.2 fun x => ⟨fun hx => ?_, fun hx => ?_⟩
    · rcases List.mem_cons.1 ((h x).1 (List.mem_cons_of_mem _ hx)) with e | e
      · subst e; exact absurd (hl'.1 x hx) (List.lt_irrefl x)
      · exact e
    · rcases List.mem_cons.1 ((h x).2 (List.mem_cons_of_mem _ hx)) with e | e
      · subst e; exact absurd (hm'.1 x hx) (List.lt_irrefl x)
      · exact e
theorem lessB_tri : ∀ (a b : List UInt8), lessB a b = false → a ≠ b → lessB b a = true
  | [], [], _, h => absurd rfl h
  | a :: r, [], _, _ => rfl
  | [], b :: s, h, _ => by simp [lessB] at h
  | a :: r, b :: s, h, hn => by
    rw [lessB] at h ⊢
    simp only [Bool.or_eq_false_iff, Bool.and_eq_false_iff, Bool.or_eq_true, Bool.and_eq_true, Nat.blt_eq, Nat.beq_eq] at h ⊢
    have h1 : ¬ a.toNat < b.toNat := fun e => by rw [← Nat.blt_eq] at e; rw [e] at h; cases h.1
    by_cases e : a = b
    · subst e
      have h2 : lessB r s = false := by
        rcases h.2 with h2 | h2
        · simp at h2
        · exact h2
      exact .inr ⟨rfl, lessB_tri r s h2 fun e2 => hn (by rw [e2])⟩
    · have : a.toNat ≠ b.toNat := fun e2 => e (UInt8.toNat_inj.1 e2)
      exact .inl (by omega)
theorem insP_t (x : List UInt8) : ∀ l : List (List UInt8), insP x true l = l.filter fun o => decide (o ≠ x)
  | [] => rfl
  | o :: r => by
    rw [insP, Bool.true_or, insP_t x r, List.filter_cons]
    by_cases h : o = x <;> simp [h]
theorem insP_mem (x : List UInt8) : ∀ (l : List (List UInt8)) (y : List UInt8), y ∈ insP x false l ↔ y = x ∨ y ∈ l
  | [], y => by simp [insP]
  | o :: r, y => by
    have ih := insP_mem x r y
    rw [insP, Bool.false_or]
    cases hl : lessB o x with
    | true =>
      have hne : o ≠ x := fun e => by rw [e] at hl; exact lt_irr x ((lessB_lt x x).1 hl)
      rw [if_neg hne]
      simp only [Bool.not_true, Bool.and_false, Bool.false_eq_true, if_false, List.nil_append, List.cons_append, List.mem_cons, ih]
      constructor
      · rintro (h | h | h)
        · exact .inr (.inl h)
        · exact .inl h
        · exact .inr (.inr h)
      · rintro (h | h | h)
        · exact .inr (.inl h)
        · exact .inl h
        · exact .inr (.inr h)
    | false =>
      rw [Bool.not_false, insP_t]
      simp only [Bool.not_false, Bool.and_true, if_true, List.mem_append, List.mem_singleton, List.mem_filter, decide_eq_true_eq, List.mem_cons]
      by_cases ho : o = x <;> by_cases e : y = x <;> simp [ho, e]
theorem insP_up (x : List UInt8) : ∀ (l : List (List UInt8)), Up l → Up (insP x false l)
  | [], _ => by simp [insP, Up]
  | o :: r, hu => by
    have hu' := List.pairwise_cons.1 hu
    rw [insP, Bool.false_or]
    cases hl : lessB o x with
    | true =>
      have hlt := (lessB_lt o x).1 hl
      have hne : o ≠ x := fun e => by rw [e] at hlt; exact lt_irr x hlt
      rw [if_neg hne]
      simp only [Bool.not_true, Bool.and_false, Bool.false_eq_true, if_false, List.nil_append, List.cons_append]
      refine List.pairwise_cons.2 ⟨fun y hy => ?_, insP_up x r hu'.2⟩
      rcases (insP_mem x r y).1 hy with e | e
      · rw [e]; exact hlt
      · exact hu'.1 y e
    | false =>
      rw [Bool.not_false, insP_t]
      simp only [Bool.not_false, Bool.and_true, if_true, List.cons_append, List.nil_append]
      by_cases ho : o = x
      · rw [if_pos ho, List.nil_append]
        refine List.pairwise_cons.2 ⟨fun y hy => ?_, hu'.2.filter _⟩
        rw [← ho]; exact hu'.1 y (List.mem_filter.1 hy).1
      · have hxo := (lessB_lt x o).1 (lessB_tri o x hl ho)
        rw [if_neg ho]
        refine List.pairwise_cons.2 ⟨fun y hy => ?_, List.pairwise_cons.2 ⟨fun y hy => hu'.1 y (List.mem_filter.1 hy).1, hu'.2.filter _⟩⟩
        rcases List.mem_cons.1 hy with e | e
        · rw [e]; exact hxo
        · exact List.lt_trans hxo (hu'.1 y (List.mem_filter.1 e).1)
theorem scP_eq : ∀ (P out : List (List UInt8)), scP out P = if Pg.allN P then some (P.foldl (fun o x => insP x false o) out) else none
  | [], out => rfl
  | x :: r, out => by
    rw [scP, scP_eq r]
    have : Pg.allN (x :: r) = (RefN.isName ⟨x.toArray⟩ && Pg.allN r) := by unfold Pg.allN; rfl
    rw [this]
    cases RefN.isName ⟨x.toArray⟩ <;> simp
theorem fold_up : ∀ (P out : List (List UInt8)), Up out → Up (P.foldl (fun o x => insP x false o) out) ∧ ∀ y, y ∈ P.foldl (fun o x => insP x false o) out ↔ y ∈ out ∨ y ∈ P
  | [], out, h => ⟨h, fun y => by simp⟩
  | x :: r, out, h => by
    obtain ⟨h1, h2⟩ := fold_up r (insP x false out) (insP_up x out h)
    refine ⟨h1, fun y => ?_⟩
    rw [List.foldl_cons, h2, insP_mem, List.mem_cons]
    constructor
    · rintro ((h | h) | h)
      · exact .inr (.inl h)
      · exact .inl h
      · exact .inr (.inr h)
    · rintro (h | h | h)
      · exact .inl (.inr h)
      · exact .inl (.inl h)
      · exact .inr h
/-- Texts in a row that doesn't fall, made short. -/
theorem compact_up (l : List (List UInt8)) (h : l.Pairwise fun x y => lessB y x = false) : Up (Lib.compact l) ∧ ∀ y, y ∈ Lib.compact l ↔ y ∈ l := by
  have hget : ∀ j, j < l.length → l.toArray[j]! = l[j]! := fun j hj => by simp [hj]
  have hle : ∀ i j, i ≤ j → j < l.length → i = j ∨ lessB l[j]! l[i]! = false := fun i j hij hj => by
    rcases Nat.lt_or_eq_of_le hij with h1 | h1
    · right
      have := List.pairwise_iff_getElem.1 h i j (by omega) hj h1
      simpa [hj, show i < l.length by omega] using this
    · exact .inl h1
  unfold Lib.compact Lib.compactUpTo
  constructor
  · unfold Up
    rw [List.pairwise_map]
    refine List.Pairwise.filter _ ?_ |>.imp_of_mem ?_ (R := fun i j => i < j)
    · exact List.pairwise_lt_range
    · intro i j hi hj hij
      have hjl := List.mem_range.1 (List.mem_filter.1 hj).1
      have hk := (List.mem_filter.1 hj).2
      simp only [Lib.keeps, decide_eq_true_eq] at hk
      have hne : l.toArray[j]! ≠ l.toArray[j - 1]! := by rcases hk with e | e; omega; exact e
      rw [hget j hjl, hget (j - 1) (by omega)] at hne
      rw [hget i (by omega), hget j hjl]
      have h1 : lessB l[j]! l[j - 1]! = false := by
        rcases hle (j - 1) j (by omega) hjl with e | e
        · omega
        · exact e
      have h2 := (lessB_lt _ _).1 (lessB_tri _ _ h1 hne)
      rcases hle i (j - 1) (by omega) (by omega) with e | e
      · rw [e]; exact h2
      · by_cases e2 : l[j - 1]! = l[i]!
        · rw [← e2]; exact h2
        · exact List.lt_trans ((lessB_lt _ _).1 (lessB_tri _ _ e e2)) h2
  · intro y
    rw [List.mem_map]
    constructor
    · rintro ⟨j, hj, rfl⟩
      have hjl := List.mem_range.1 (List.mem_filter.1 hj).1
      rw [hget j hjl]
      simp [hjl]
    · intro hy
      obtain ⟨j0, hj0, he0⟩ := List.getElem_of_mem hy
      have key : ∀ j, j < l.length → l[j]! = y → ∃ a, a ∈ List.filter (Lib.keeps l.toArray) (List.range l.length) ∧ l.toArray[a]! = y := by
        intro j
        induction j with
        | zero =>
          intro hj he
          exact ⟨0, List.mem_filter.2 ⟨List.mem_range.2 hj, by simp [Lib.keeps]⟩, by rw [hget 0 hj]; exact he⟩
        | succ j ih =>
          intro hj he
          by_cases e : l[j]! = y
          · exact ih (by omega) e
          · refine ⟨j + 1, List.mem_filter.2 ⟨List.mem_range.2 hj, ?_⟩, by rw [hget _ hj]; exact he⟩
            simp only [Lib.keeps, decide_eq_true_eq]
            right
            rw [hget _ hj, Nat.add_sub_cancel, hget j (by omega), he]
            exact fun e2 => e e2.symm
      exact key j0 hj0 (by simp [hj0, he0])
theorem uniq_up (P : List (List UInt8)) : Up (Pg.uniqL P) ∧ ∀ y, y ∈ Pg.uniqL P ↔ y ∈ P := by
  have hs : (So.sortL P).Pairwise fun x y => lessB y x = false := by
    unfold So.sortL
    refine (List.pairwise_mergeSort (le := fun x y => decide (x ≤ y)) ?_ ?_ P).imp ?_
    · intro a b c h1 h2
      simp only [decide_eq_true_eq] at *
      exact List.le_trans h1 h2
    · intro a b
      simp only [Bool.or_eq_true, decide_eq_true_eq]
      exact List.le_total a b
    · intro a b h1
      simp only [decide_eq_true_eq] at h1
      cases hb : lessB b a with
      | false => rfl
      | true => exact absurd ((lessB_lt b a).1 hb) (List.not_lt.2 h1)
  obtain ⟨h1, h2⟩ := compact_up _ hs
  refine ⟨h1, fun y => (h2 y).trans ?_⟩
  unfold So.sortL
  exact List.mem_mergeSort
/-- Both tell the same. -/
theorem same (s : ByteArray) : Pg.progS s = scopesP s := by
  unfold Pg.progS scopesP
  split
  · rfl
  rw [scP_eq]
  cases Pg.allN (partsL 32 [] s.data.toList) with
  | false => rfl
  | true =>
    simp only [if_true]
    obtain ⟨h1, h2⟩ := uniq_up (partsL 32 [] s.data.toList)
    obtain ⟨h3, h4⟩ := fold_up (partsL 32 [] s.data.toList) [] List.Pairwise.nil
    rw [Up.ext h1 h3 fun x => by rw [h2, h4]; simp]
end Go.Kx.Sco
