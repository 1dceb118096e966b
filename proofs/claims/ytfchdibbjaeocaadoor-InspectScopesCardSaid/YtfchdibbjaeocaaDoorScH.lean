/- Scope texts: the program's scopes of a text. No condition of its own. -/
import Derived.Test.YtfchdibbjaeocaaDoorScG
namespace Go.Kx.Sco
open Go.Proofs Go.Kx Go.RowKit Go.Sort
set_option maxRecDepth 20000
set_option linter.unusedSimpArgs false
theorem VAt.of_frozen2 {H : Hp} {x : Value} {n : Nat} {vs : List Value} (hn : n = vs.length) (h : Frozen H x n vs) : ∃ A cap, x = .slice A n cap ∧ VAt H A n vs ∧ n ≤ cap := by
  rcases h with ⟨rfl, h1, h2⟩ | ⟨g, o, cap, rfl, h3, h2⟩
  · subst h1
    exact ⟨none, 0, rfl, ⟨hn, fun _ => h2, fun a e => (nomatch e)⟩, Nat.le_refl _⟩
  · exact ⟨_, cap, rfl, ⟨hn, fun e => (nomatch e), fun a e => by injection e with e; subst e; exact h2⟩, by omega⟩
namespace Pg
def uniqL (P : List (List UInt8)) : List (List UInt8) := Lib.compact (So.sortL P)
def progS (s : ByteArray) : Option (List (List UInt8)) :=
  if s.data.toList = [] then some [] else
  if allN (partsL 32 [] s.data.toList) then (if 8 < (uniqL (partsL 32 [] s.data.toList)).length then none else some (uniqL (partsL 32 [] s.data.toList))) else none
def KS (s : ByteArray) (e : SE) (G' : List SB) : Prop :=
  (progS s = none ∧ e = .ret (.tu [.ce (.val (.slice none 0 0)), .ce (.val (.int .i64 52))]) ∧ G' = []) ∨ (s.data.toList = [] ∧ e = .ret (.tu [.ce (.val (.slice none 0 0)), .ce (.val (.int .i64 0))]) ∧ G' = []) ∨
  (∃ L, s.data.toList ≠ [] ∧ progS s = some L ∧ e = .ret (.tu [.ce (.self 1), .ce (.val (.int .i64 0))]) ∧ G' = [.dead, .row 9 1 L.length (stC L)])
theorem scopes0 (s : ByteArray) (hs : s.size ≤ 10000) (H : Hp) : CallO Tryd.prog 16 [pv (.string s)] H [] fun e _ G' => KS s e G' := by
  have hsl : s.data.toList.length = s.size := by rw [Array.length_toList]; rfl
  refine CallO.of_body tab Tryd.func16 rfl (nt := Tryd.f16.ntmps) rfl (by kernel_rfl) ?_
  (conv => whnf)
  refine br.of (fun h1 => ?_) (fun h1 => ?_) <;> (conv => whnf)
  · rw [strEq_iff] at h1
    subst h1
    exact .inr (.inl ⟨rfl, rfl, rfl⟩)
  rw [strEq_false] at h1
  have hne0 : s.data.toList ≠ [] := fun h => h1 (by
    have : s.data = #[] := Array.toList_inj.1 h
    cases s; simpa using this)
  have hprog : progS s = if allN (partsL 32 [] s.data.toList) then (if 8 < (uniqL (partsL 32 [] s.data.toList)).length then none else some (uniqL (partsL 32 [] s.data.toList))) else none := by unfold progS; rw [if_neg hne0]
  have hpl := partsL_len 32 s.data.toList []
  have hpm := partsL_mem 32 s.data.toList []
  have hpp := RefN.partsL_pos 32 s.data.toList []
  refine ⟨⟨_, Tryd.func27, rfl, by kernel_rfl⟩, CallS.use (split_ s (by omega) H) [] rfl rfl trivial ?_⟩
  rintro e H1 G' hle1 ⟨rfl, rfl, rfl⟩
  generalize partsL 32 [] s.data.toList = P at *
  (conv => whnf)
  refine ⟨⟨_, Tryd.func28, rfl, by kernel_rfl⟩, CallS.use (contains_ P (by omega) (fun l hl => by have := hpm l hl; simp only [List.length_nil] at this; omega) H1) [0] rfl rfl ⟨rfl, trivial⟩ ?_⟩
  rintro e H2 G' hle2 ⟨rfl, rfl, rfl⟩
  cases ha : allN P
  all_goals
    rw [ha] at hprog
    (conv => whnf)
  · exact .inl ⟨by rw [hprog]; rfl, rfl, rfl⟩
  refine ⟨⟨_, Tryd.func31, rfl, by kernel_rfl⟩, CallS.use (So.sort_ P (by omega) hpp H2) [0] rfl rfl ⟨rfl, trivial⟩ ?_⟩
  rintro e H3 G' hle3 ⟨rfl, rfl, rfl⟩
  have hsl2 := So.sortL_length P
  have hun : uniqL P = Lib.compact (So.sortL P) := rfl
  rw [hun] at hprog
  rw [← hsl2] at hpp hpl ⊢
  generalize So.sortL P = S at *
  (conv => whnf)
  refine ⟨⟨_, Tryd.func32, rfl, by kernel_rfl⟩, CallS.use (compact_ S (by omega) hpp H3) [0] rfl rfl ⟨rfl, trivial⟩ ?_⟩
  rintro e H4 G' hle4 ⟨rfl, rfl, rfl⟩
  generalize Lib.compact S = C at *
  (conv => whnf)
  refine br.of (fun h2 => ?_) (fun h2 => ?_) <;> (conv => whnf)
  · simp only [decide_eq_true_eq] at h2
    have h3 : 8 < C.length := by omega
    exact .inl ⟨by rw [hprog, if_pos h3]; rfl, rfl, rfl⟩
  · simp only [decide_eq_false_iff_not] at h2
    have h3 : ¬ 8 < C.length := by omega
    exact .inr (.inr ⟨C, hne0, by rw [hprog, if_neg h3]; rfl, rfl, rfl⟩)
/-- What the program tells of a text's scopes. -/
def RetP (s : ByteArray) (e : SE) (H' : Hp) : Prop :=
  (progS s = none ∧ e = .ret (.tu [.ce (.val (.slice none 0 0)), .ce (.val (.int .i64 52))])) ∨ (∃ L B m c, progS s = some L ∧ e = .ret (.tu [.ce (.val (.slice B m c)), .ce (.val (.int .i64 0))]) ∧ VAt H' B m (stC L) ∧ m ≤ c)
theorem scopes_ (s : ByteArray) (hs : s.size ≤ 10000) (H : Hp) : CallO Tryd.prog 16 [pv (.string s)] H [] fun e H' G' => RetP s e H' ∧ G' = [] := by
  by_cases h : s.data.toList ≠ [] ∧ ∃ L, progS s = some L
  · obtain ⟨h0, L, hL⟩ := h
    refine CallO.sub (CallO.frz (K := fun e H' G' => RetP s e H' ∧ G' = [.dead, .dead]) (scopes0 s hs H) ?_) ?_
    · rintro e H' G' hle (⟨h1, _⟩ | ⟨h1, _⟩ | ⟨L2, _, h2, rfl, rfl⟩)
      · rw [h1] at hL; cases hL
      · exact absurd h1 h0
      refine ⟨1, 9, 1, _, _, rfl, fun hz => ?_, fun x H2 hle2 hfr => ?_⟩
      · have : L2 = [] := List.eq_nil_of_length_eq_zero hz
        rw [this]; rfl
      obtain ⟨B, cc, rfl, hv, hmc⟩ := VAt.of_frozen2 (by rw [stC_len]) hfr
      exact ⟨.inr ⟨L2, B, _, cc, h2, rfl, hv, hmc⟩, rfl⟩
    · rintro e H' G' hle ⟨hr, rfl⟩
      rcases hr with ⟨h1, rfl⟩ | ⟨L2, B, m, cc, h1, rfl, hv⟩
      · exact ⟨_, [], [], rfl, trivial, rfl, .inl ⟨h1, rfl⟩, rfl⟩
      · exact ⟨_, [], [], rfl, trivial, rfl, .inr ⟨L2, B, m, cc, h1, rfl, hv⟩, rfl⟩
  · refine (scopes0 s hs H).mono ?_
    rintro e H' G' hle (⟨h1, rfl, rfl⟩ | ⟨h1, rfl, rfl⟩ | ⟨L2, h1, h2, _⟩)
    · exact ⟨.inl ⟨h1, rfl⟩, rfl⟩
    · exact ⟨.inr ⟨[], none, 0, 0, by unfold progS; rw [if_pos h1], rfl, ⟨rfl, fun _ => rfl, fun a e => (nomatch e)⟩, Nat.le_refl _⟩, rfl⟩
    · exact absurd ⟨h1, L2, h2⟩ h
end Pg
end Go.Kx.Sco
