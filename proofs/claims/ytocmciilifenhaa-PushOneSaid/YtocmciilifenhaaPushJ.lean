/- The scheduler's lines and the document's are the same ones: the plain law. No condition of its own. -/
import Derived.Test.YtocmciilifenhaaPushI
namespace Go.Kx.Push
open Go.Proofs Go.Kx

theorem getL_put (ls : List Ln) (x : Ln) (n : Int) : getL (putL ls x) n = if n = x.1 then x else getL ls n := by
  unfold getL putL
  rw [List.find?_append]
  by_cases h : n = x.1
  · subst h
    have : (ls.filter (fun y => decide (y.1 ≠ x.1))).find? (fun y => decide (y.1 = x.1)) = none := by
      rw [List.find?_eq_none]
      intro y hy
      have := (List.mem_filter.1 hy).2
      simpa using this
    rw [this]
    simp
  · have : (ls.filter (fun y => decide (y.1 ≠ x.1))).find? (fun y => decide (y.1 = n)) = ls.find? (fun y => decide (y.1 = n)) := by
      rw [List.find?_filter]
      congr 1
      funext y
      by_cases hy : y.1 = n
      · simp [hy, h]
      · simp [hy]
    rw [this]
    cases ls.find? (fun y => decide (y.1 = n)) with
    | none =>
      have hx : ¬ x.1 = n := fun e => h e.symm
      simp [h, hx]
    | some y => simp [h]
def Rel (pl : Lines) (ls : List Ln) : Prop := ∀ n, lineOf pl n = (getL ls n).2
theorem Rel.nil : Rel (fun _ => none) [] := fun _ => rfl
theorem Rel.upd {pl : Lines} {ls : List Ln} (h : Rel pl ls) (n : Int) (x : ByteArray × Int × Int) : Rel (updL pl n x) (putL ls (n, x)) := fun k => by
  rw [getL_put]
  by_cases hk : k = n
  · subst hk; rw [lineOf_upd]; simp
  · rw [lineOf_upd_ne _ _ hk, if_neg hk]; exact h k
theorem Rel.del {pl : Lines} {ls : List Ln} (h : Rel pl ls) (n : Int) : Rel (delL pl n) (putL ls (n, ⟨#[]⟩, 0, 0)) := fun k => by
  rw [getL_put]
  by_cases hk : k = n
  · subst hk; rw [lineOf_del]; simp
  · rw [lineOf_del_ne _ hk, if_neg hk]; exact h k
/-- How many failures there are at most. -/
def Few (pl : Lines) (m : Int) : Prop := ∀ n, 0 ≤ (lineOf pl n).2.1 ∧ (lineOf pl n).2.1 ≤ m
theorem Few.upd {pl : Lines} {m : Int} (h : Few pl m) (n : Int) {x : ByteArray × Int × Int} (hx0 : 0 ≤ x.2.1) (hx : x.2.1 ≤ m + 1) : Few (updL pl n x) (m + 1) := fun k => by
  by_cases hk : k = n
  · subst hk; rw [lineOf_upd]; exact ⟨hx0, hx⟩
  · rw [lineOf_upd_ne _ _ hk]; have := h k; omega
theorem Few.del {pl : Lines} {m : Int} (h : Few pl m) (hm : 0 ≤ m) (n : Int) : Few (delL pl n) (m + 1) := fun k => by
  by_cases hk : k = n
  · subst hk; rw [lineOf_del]; exact ⟨Int.le_refl _, by show (0 : Int) ≤ m + 1; omega⟩
  · rw [lineOf_del_ne _ hk]; have := h k; omega
theorem Few.mono {pl : Lines} {m : Int} (h : Few pl m) : Few pl (m + 1) := fun k => by have := h k; omega
theorem step_law {b c : Int} {pl : Lines} {ls : List Ln} (h : Rel pl ls) {m : Int} (hm : 0 ≤ m) (hf : Few pl m) (o : Opr) : (pStep b c pl o).2 = (lStep b c ls o).2 ∧ Rel (pStep b c pl o).1 (lStep b c ls o).1 ∧ Few (pStep b c pl o).1 (m + 1) := by
  have hn := h o.n
  unfold pStep lStep
  split
  · unfold pStart lStart
    rw [← hn]
    split
    · exact ⟨rfl, h, hf.mono⟩
    · split
      · exact ⟨rfl, h, hf.mono⟩
      · have := hf o.n
        exact ⟨rfl, h.upd _ _, hf.upd _ this.1 (by show (lineOf pl o.n).2.1 ≤ m + 1; omega)⟩
  · split
    · unfold pEnd lEnd
      rw [← hn]
      split
      · exact ⟨rfl, h, hf.mono⟩
      · split
        · exact ⟨rfl, h.del _, hf.del hm _⟩
        · split
          · exact ⟨rfl, h, hf.mono⟩
          · have := hf o.n
            exact ⟨rfl, h.upd _ _, hf.upd _ (by show 0 ≤ (lineOf pl o.n).2.1 + 1; omega) (by show (lineOf pl o.n).2.1 + 1 ≤ m + 1; omega)⟩
    · exact ⟨rfl, h, hf.mono⟩
/-- No step has more lines than one more. -/
theorem putL_len (ls : List Ln) (x : Ln) : (putL ls x).length ≤ ls.length + 1 := by
  unfold putL
  rw [List.length_append]
  have := List.length_filter_le (fun y : Ln => decide (y.1 ≠ x.1)) ls
  simp only [List.length_cons, List.length_nil]; omega
theorem lStep_len (b c : Int) (ls : List Ln) (o : Opr) : (lStep b c ls o).1.length ≤ ls.length + 1 := by
  unfold lStep lStart lEnd
  repeat' split
  all_goals first | exact putL_len _ _ | exact Nat.le_succ _
/-- A step of another stream leaves a stream's line. -/
theorem pStep_ne (b c : Int) (pl : Lines) (o : Opr) {k : Int} (h : k ≠ o.n) : lineOf (pStep b c pl o).1 k = lineOf pl k := by
  unfold pStep pStart pEnd
  repeat' split
  all_goals first | rfl | exact lineOf_upd_ne _ _ h | exact lineOf_del_ne _ h
theorem pStep_few {b c : Int} {pl : Lines} {m : Int} (hm : 0 ≤ m) (hf : Few pl m) (o : Opr) : Few (pStep b c pl o).1 (m + 1) := by
  have := hf o.n
  unfold pStep pStart pEnd
  repeat' split
  all_goals first
    | exact hf.mono
    | exact hf.del hm _
    | exact hf.upd _ this.1 (by show (lineOf pl o.n).2.1 ≤ m + 1; omega)
    | exact hf.upd _ (by show 0 ≤ (lineOf pl o.n).2.1 + 1; omega) (by show (lineOf pl o.n).2.1 + 1 ≤ m + 1; omega)

/-! ### The steps, read -/
def opsV (os : List Opr) : List Value := os.flatMap Opr.cells
theorem opsV_get {os : List Opr} {i : Nat} {x : Opr} (h : os[i]? = some x) {j : Nat} (hj : j < 6) : (opsV os)[i * 6 + j]? = x.cells[j]? := by
  induction os generalizing i with
  | nil => simp at h
  | cons y r ih =>
    have hl : y.cells.length = 6 := rfl
    cases i with
    | zero =>
      simp at h; subst h
      simp only [opsV, List.flatMap_cons]
      rw [List.getElem?_append_left (by omega)]
      simp
    | succ i =>
      simp only [opsV, List.flatMap_cons]
      rw [List.getElem?_append_right (by omega), hl, show (i + 1) * 6 + j - 6 = i * 6 + j by omega]
      exact ih (by simpa using h)
def OOk (H : Hp) (A : Option Addr) (len : Nat) (os : List Opr) : Prop := len = os.length ∧ (os = [] ∨ RdN H A 0 (opsV os))
theorem OOk.mono {H H' : Hp} (h : H.Le H') {A : Option Addr} {len : Nat} {os : List Opr} (hm : OOk H A len os) : OOk H' A len os :=
  ⟨hm.1, hm.2.imp id fun ⟨b, o, h1, h2⟩ => ⟨b, o, h1, fun j x hx => h _ _ _ (h2 j x hx)⟩⟩
theorem OOk.rd {H : Hp} {A : Option Addr} {len : Nat} {os : List Opr} (hm : OOk H A len os) {i : Nat} {x : Opr} (h : os[i]? = some x) {off : Nat} (ho : off = i * 6) : RdN H A off x.cells := by
  rcases hm.2 with rfl | ⟨b, o, h1, h2⟩
  · simp at h
  · refine ⟨b, o, h1, fun j y hy => ?_⟩
    have hj : j < 6 := (List.getElem?_eq_some_iff.1 hy).1
    have := h2 (i * 6 + j) y (by rw [opsV_get h hj]; exact hy)
    subst ho
    rw [show o + i * 6 + j = o + 0 + (i * 6 + j) by omega]; exact this
theorem OOk.addr {H : Hp} {A : Option Addr} {len : Nat} {os : List Opr} (hm : OOk H A len os) {i : Nat} {x : Opr} (h : os[i]? = some x) : ∃ b o, A = some ⟨b, o, none⟩ := by
  obtain ⟨b, o, h1, _⟩ := hm.rd h rfl
  exact ⟨b, o, h1⟩
end Go.Kx.Push
