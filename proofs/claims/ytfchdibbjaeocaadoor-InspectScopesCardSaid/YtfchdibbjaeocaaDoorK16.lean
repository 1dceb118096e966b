/- From a call's contract to what a law's row owes; arguments that read as data. Generic in the program; no condition of its own. -/
import Derived.Test.YtfchdibbjaeocaaDoorK15
import Derived.Test.YtfchdibbjaeocaaDoorKLaw
import Derived.Deep.Slices
namespace Go.Kx
open Go.ChangeShapes Go.WideShapes Go.ChangeAt Go.RowKit Go.Deep

/-- All that is there is read for good. -/
def heapOf (W : World) : Hp := fun b o => W.cell? ⟨b, o, none⟩
theorem St.begin (W : World) : St W (fun _ => False) (heapOf W) [] (heapOf W) [] W :=
  ⟨rfl, rfl, rfl, Nat.le_refl _, fun _ _ _ => rfl, .refl _, fun _ _ _ e => e, fun _ _ _ e => .inl e, rfl, fun k s r h => by simp at h, fun k g h => by simp [blkAt] at h, fun i j g h => by simp [blkAt] at h⟩
theorem law_of {P : Program} {f : FuncId} {svs : List SV} {W : World} {args : Array Value} {K : SE → Hp → List SB → Prop} (hgd : Gd W fun _ => False) (h : CallO P f svs (heapOf W) [] K) (hv : All2 (SV.Is []) svs args.toList) (hK : ∀ e H' G', K e H' G' → e = .ret (pv (.bool true))) :
    Calls P f args W fun e W' => e = .returned (.bool true) ∧ Below W.heap.size W W' := by
  have := h W (fun _ => False) hgd (heapOf W) [] W args.toList (St.begin W) hv
  refine this.mono fun e W' he => ?_
  cases e with
  | returned v =>
    obtain ⟨sv, ρ', H', G', h1, _, h3, _, h5⟩ := he
    have e1 := hK _ _ _ h5
    injection e1 with e1
    subst e1
    have h3 : v = .bool true := h3
    exact ⟨by rw [h3], h1.os, h1.tape, h1.output, h1.size, fun k hk => h1.old k hk id⟩
  | panicked ch => obtain ⟨_, _, _, _, _, _, h5⟩ := he; exact absurd (hK _ _ _ h5) (fun h => nomatch h)
  | outgrown => exact he.elim

theorem flat_get {α : Type} {E : α → List Value} {sz : Nat} (hE : ∀ y, (E y).length = sz) (hsz : 0 < sz) : ∀ (xs : List α) (j : Nat), (xs.flatMap E)[j]? = (xs[j / sz]?).bind fun y => (E y)[j % sz]?
  | [], j => by simp
  | x :: r, j => by
    rw [List.flatMap_cons]
    rcases Nat.lt_or_ge j sz with h | h
    · rw [List.getElem?_append_left (by rw [hE]; exact h), Nat.div_eq_of_lt h, Nat.mod_eq_of_lt h]; rfl
    · rw [List.getElem?_append_right (by rw [hE]; exact h), hE, flat_get hE hsz r (j - sz)]
      have e1 : j / sz = (j - sz) / sz + 1 := by rw [Nat.div_eq_sub_div hsz h]
      have e2 : j % sz = (j - sz) % sz := Nat.mod_eq_sub_mod h
      rw [e1, e2, List.getElem?_cons_succ]
theorem addr_add_add (a : Addr) (i j : Nat) : (a.add i).add j = a.add (i + j) := by
  unfold Addr.add
  by_cases hi : i = 0
  · subst hi; simp
  · by_cases hj : j = 0
    · subst hj; simp [hi]
    · simp [hi, hj, Nat.add_assoc]
/-- A slice that reads as data: its elements. -/
theorem rd_slice {α : Type} (E : α → List Value) {sz : Nat} (hE : ∀ y, (E y).length = sz) (hsz : 0 < sz) {H : Type} {enc : TypeId × Value → H} {P : Program} {w : World} {t e : TypeId} {spare : Nat → Bool} {held : Bool} (ht : P.underlying t = some (.slice e)) (hs : P.cellsOf e = sz)
    (hel : ∀ n cs x, DataW.trod enc P w 0 spare held n e cs = some x → ∃ y, cs = E y) {fuel : Nat} {cs : List Value} {x : DataW H × List MemPlace}
    (h : DataW.trod enc P w 0 spare held fuel t cs = some x) : ∃ (A : Option Addr) (c : Nat) (xs : List α), cs = [.slice A xs.length c] ∧ (xs = [] ∨ RdN (heapOf w) A 0 (xs.flatMap E)) := by
  rcases open_slice ht h with ⟨rfl, _⟩ | ⟨a, len, cap, m, n, D, Pl, rfl, _, hl, hm, hmm, _, hx⟩
  · exact ⟨none, 0, [], rfl, .inl rfl⟩
  · have hle : len ≤ m := by rw [hmm]; split <;> omega
    have hex : ∀ i, i < len → ∃ y, w.cells? 0 (a.add (i * sz)) sz = some (E y) := fun i hi => by
      obtain ⟨cs', h1, h2⟩ := hx i (by omega)
      obtain ⟨y, rfl⟩ := hel _ _ _ h2
      rw [hs] at h1
      exact ⟨y, h1⟩
    have hlist : ∀ k, k ≤ len → ∃ xs : List α, xs.length = k ∧ ∀ j p, xs[j]? = some p → w.cells? 0 (a.add (j * sz)) sz = some (E p) := by
      intro k
      induction k with
      | zero => exact fun _ => ⟨[], rfl, fun j p h => by simp at h⟩
      | succ k ih =>
        intro hk
        obtain ⟨xs, hl, hxs⟩ := ih (by omega)
        obtain ⟨y, hy⟩ := hex k (by omega)
        refine ⟨xs ++ [y], by simp [hl], fun j p hj => ?_⟩
        by_cases hjk : j < k
        · rw [List.getElem?_append_left (by omega)] at hj; exact hxs j p hj
        · have hjl := (List.getElem?_eq_some_iff.1 hj).1
          simp at hjl
          obtain rfl : j = k := by omega
          rw [List.getElem?_append_right (by omega), hl] at hj
          simp at hj; subst hj; exact hy
    obtain ⟨xs, hxl, hxs⟩ := hlist len (Nat.le_refl _)
    subst hxl
    refine ⟨some a, cap, xs, rfl, ?_⟩
    cases xs with
    | nil => exact .inl rfl
    | cons x0 r =>
      right
      have key : ∀ j v, ((x0 :: r).flatMap E)[j]? = some v → w.cell? (a.add j) = some v := by
        intro j v hv
        rw [flat_get hE hsz] at hv
        obtain ⟨y, h1, h2⟩ := Option.bind_eq_some_iff.1 hv
        obtain ⟨_, _, h3⟩ := World.cells?_some (hxs _ _ h1)
        have := h3 (j % sz) (Nat.mod_lt _ hsz)
        rw [addr_add_add, Nat.mul_comm, Nat.div_add_mod] at this
        rw [this]; exact h2
      obtain ⟨b, o, sp⟩ := a
      have hsp : sp = none := by
        have h0 : 0 < (E x0).length := by rw [hE]; exact hsz
        have := key 0 (E x0)[0] (by rw [List.flatMap_cons, List.getElem?_append_left h0]; exact List.getElem?_eq_getElem h0)
        simpa [Addr.add] using World.cell?_spot this
      subst hsp
      refine ⟨b, o, rfl, fun j v hv => ?_⟩
      have := key j v hv
      rw [Addr.add_lit] at this
      simpa [heapOf] using this
section
variable {H : Type} {enc : TypeId × Value → H} {P : Program} {w : World} {base : Nat} {spare : Nat → Bool} {held : Bool}
/-- The reading of a struct's field. -/
theorem field_at {fs : Array Field} {cs : List Value} {xs : List (DataW H × List MemPlace)} {n : Nat} (hl : xs.length = fs.size)
    (hf : ∀ (i : Nat) (f : Field), fs[i]? = some f → DataW.trod enc P w base spare held n f.type ((cs.drop f.offset).take (P.cellsOf f.type)) = xs[i]?) (i t off : Nat) (h : (fs[i]?).map (fun f => (f.type, f.offset)) = some (t, off)) :
    ∃ y, DataW.trod enc P w base spare held n t ((cs.drop off).take (P.cellsOf t)) = some y := by
  obtain ⟨f, hfi, he⟩ := Option.map_eq_some_iff.1 h
  have hi := (Array.getElem?_eq_some_iff.1 hfi).1
  injection he with e1 e2
  subst e1 e2
  exact ⟨xs[i], by rw [hf i f hfi, List.getElem?_eq_getElem (by omega)]⟩
end
end Go.Kx
