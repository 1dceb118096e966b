/- Texts that are told: where one is wrong. No condition of its own. -/
import Derived.Test.YtfchdibbjaeocaaJsF
namespace Go.Kx.Js
open Go.Proofs Go.Kx Go.RowKit
set_option maxRecDepth 20000
abbrev Spans := List (Nat × Nat)
def any1 : Nat × Nat := (128, 191)
def behindP (c : Nat) : Option Spans :=
  if c < 128 then some [] else if c < 194 then none else if c < 224 then some [any1] else if c = 224 then some [(160, 191), any1] else if c = 237 then some [(128, 159), any1] else
  if c < 240 then some [any1, any1] else if c = 240 then some [(144, 191), any1, any1] else if c < 244 then some [any1, any1, any1] else if c = 244 then some [(128, 143), any1, any1] else none
def spCells (l : Spans) : List Value := l.flatMap fun p => [.int .u8 (p.1 : Int), .int .u8 (p.2 : Int)]
def inSp : Spans → List UInt8 → Bool
  | [], _ => true
  | _ :: _, [] => false
  | p :: r, c :: l => (decide (p.1 ≤ c.toNat) && decide (c.toNat ≤ p.2)) && inSp r l
def charP (l : List UInt8) : Nat :=
  match behindP (pk l).toNat with
  | none => 0
  | some sp => if l.length ≤ sp.length then 0 else if inSp sp l.tail then 1 + sp.length else 0
def wrongP : Nat → List UInt8 → Option (List UInt8)
  | 0, _ => none
  | _ + 1, [] => none
  | k + 1, c :: l => if charP (c :: l) = 0 then some (c :: l) else wrongP k ((c :: l).drop (charP (c :: l)))
def wrongI (s : ByteArray) : Int :=
  match wrongP ((tL s).length + 1) (tL s) with
  | none => -1
  | some r => ((pos s r : Nat) : Int)
theorem further_ (H : Hp) : CallO Try.prog 39 [] H [] fun e H' G' => H' = H ∧ e = .ret (.si (.ag [.val (.int .u8 128), .val (.int .u8 191)])) ∧ G' = [] := by
  refine CallO.of_body tab Try.func39 rfl (nt := Try.f39.ntmps) rfl (by kernel_rfl) ?_
  (conv => whnf)
  exact ⟨rfl, rfl, rfl⟩
def RB (o : Option Spans) (e : SE) (H' : Hp) : Prop :=
  match o with
  | some sp => ∃ A cap, e = .ret (.tu [.ce (.val (.slice A sp.length cap)), .ce (.val (.bool true))]) ∧ RdV H' A (spCells sp)
  | none => ∃ A n cap, e = .ret (.tu [.ce (.val (.slice A n cap)), .ce (.val (.bool false))])
theorem behind_ (c : Nat) (hc : c < 256) (x : Int) (hx : x = (c : Int)) (H : Hp) : CallO Try.prog 25 [pv (.int .u8 x)] H [] fun e H' G' => RB (behindP c) e H' ∧ G' = [] := by
  refine CallO.of_body tab Try.func25 rfl (nt := Try.f25.ntmps) rfl (by kernel_rfl) ?_
  (conv => whnf)
  refine ⟨⟨_, Try.func39, rfl, by kernel_rfl⟩, CallS.use (further_ H) [] rfl rfl trivial ?_⟩
  rintro e H2 G' hle2 ⟨rfl, rfl, rfl⟩
  (conv => whnf)
  have lit : ∀ (sp : Spans) (g : Nat) (H' : Hp), sp.length ≠ 0 → RdN H' (some ⟨g, 0, none⟩) 0 (spCells sp) → RdV H' (some ⟨g, 0, none⟩) (spCells sp) := fun sp g H' h0 h => ⟨fun e => (nomatch e), fun a e => by injection e with e; subst e; exact h⟩
  have done : ∀ (sp : Spans) (e : SE) (H' : Hp), behindP c = some sp → RB (some sp) e H' → RB (behindP c) e H' := fun sp e H' h1 h2 => by rw [h1]; exact h2
  refine br.of (fun h1 => ?_) (fun h1 => ?_) <;> (conv => whnf)
  · have h1 := of_decide_eq_true h1
    refine ⟨done [] _ _ (if_pos (by omega)) ⟨none, 0, rfl, .nil _⟩, rfl⟩
  have h1 := of_decide_eq_false h1
  refine br.of (fun h2 => ?_) (fun h2 => ?_) <;> (conv => whnf)
  · have h2 := of_decide_eq_true h2
    have : behindP c = none := by unfold behindP; rw [if_neg (by omega), if_pos (by omega)]
    rw [this]
    exact ⟨⟨_, _, _, rfl⟩, rfl⟩
  have h2 := of_decide_eq_false h2
  refine br.of (fun h3 => ?_) (fun h3 => ?_) <;> (conv => whnf)
  · have h3 := of_decide_eq_true h3
    refine ⟨by decide, .inl ?_⟩
    intro g H3 hle3 hrd
    (conv => whnf)
    exact ⟨done [any1] _ _ (by unfold behindP; rw [if_neg (by omega), if_neg (by omega), if_pos (by omega)]) ⟨_, _, rfl, lit _ _ _ (by decide) hrd⟩, rfl⟩
  have h3 := of_decide_eq_false h3
  refine br.of (fun h4 => ?_) (fun h4 => ?_) <;> (conv => whnf)
  · simp only [beq_iff_eq] at h4
    refine ⟨by decide, .inl ?_⟩
    intro g H3 hle3 hrd
    (conv => whnf)
    exact ⟨done [(160, 191), any1] _ _ (by unfold behindP; rw [if_neg (by omega), if_neg (by omega), if_neg (by omega), if_pos (by omega)]) ⟨_, _, rfl, lit _ _ _ (by decide) hrd⟩, rfl⟩
  simp only [beq_eq_false_iff_ne, ne_eq] at h4
  refine br.of (fun h5 => ?_) (fun h5 => ?_) <;> (conv => whnf)
  · simp only [beq_iff_eq] at h5
    refine ⟨by decide, .inl ?_⟩
    intro g H3 hle3 hrd
    (conv => whnf)
    exact ⟨done [(128, 159), any1] _ _ (by unfold behindP; rw [if_neg (by omega), if_neg (by omega), if_neg (by omega), if_neg (by omega), if_pos (by omega)]) ⟨_, _, rfl, lit _ _ _ (by decide) hrd⟩, rfl⟩
  simp only [beq_eq_false_iff_ne, ne_eq] at h5
  refine br.of (fun h6 => ?_) (fun h6 => ?_) <;> (conv => whnf)
  · have h6 := of_decide_eq_true h6
    refine ⟨by decide, .inl ?_⟩
    intro g H3 hle3 hrd
    (conv => whnf)
    exact ⟨done [any1, any1] _ _ (by unfold behindP; rw [if_neg (by omega), if_neg (by omega), if_neg (by omega), if_neg (by omega), if_neg (by omega), if_pos (by omega)]) ⟨_, _, rfl, lit _ _ _ (by decide) hrd⟩, rfl⟩
  have h6 := of_decide_eq_false h6
  refine br.of (fun h7 => ?_) (fun h7 => ?_) <;> (conv => whnf)
  · simp only [beq_iff_eq] at h7
    refine ⟨by decide, .inl ?_⟩
    intro g H3 hle3 hrd
    (conv => whnf)
    exact ⟨done [(144, 191), any1, any1] _ _ (by unfold behindP; rw [if_neg (by omega), if_neg (by omega), if_neg (by omega), if_neg (by omega), if_neg (by omega), if_neg (by omega), if_pos (by omega)]) ⟨_, _, rfl, lit _ _ _ (by decide) hrd⟩, rfl⟩
  simp only [beq_eq_false_iff_ne, ne_eq] at h7
  refine br.of (fun h8 => ?_) (fun h8 => ?_) <;> (conv => whnf)
  · have h8 := of_decide_eq_true h8
    refine ⟨by decide, .inl ?_⟩
    intro g H3 hle3 hrd
    (conv => whnf)
    exact ⟨done [any1, any1, any1] _ _ (by unfold behindP; rw [if_neg (by omega), if_neg (by omega), if_neg (by omega), if_neg (by omega), if_neg (by omega), if_neg (by omega), if_neg (by omega), if_pos (by omega)]) ⟨_, _, rfl, lit _ _ _ (by decide) hrd⟩, rfl⟩
  have h8 := of_decide_eq_false h8
  refine br.of (fun h9 => ?_) (fun h9 => ?_) <;> (conv => whnf)
  · simp only [beq_iff_eq] at h9
    refine ⟨by decide, .inl ?_⟩
    intro g H3 hle3 hrd
    (conv => whnf)
    exact ⟨done [(128, 143), any1, any1] _ _ (by unfold behindP; rw [if_neg (by omega), if_neg (by omega), if_neg (by omega), if_neg (by omega), if_neg (by omega), if_neg (by omega), if_neg (by omega), if_neg (by omega), if_pos (by omega)]) ⟨_, _, rfl, lit _ _ _ (by decide) hrd⟩, rfl⟩
  simp only [beq_eq_false_iff_ne, ne_eq] at h9
  have : behindP c = none := by unfold behindP; rw [if_neg (by omega), if_neg (by omega), if_neg (by omega), if_neg (by omega), if_neg (by omega), if_neg (by omega), if_neg (by omega), if_neg (by omega), if_neg (by omega)]
  rw [this]
  exact ⟨⟨_, _, _, rfl⟩, rfl⟩
theorem has_ (a b : Nat) (x : Int) (c : UInt8) (hx : x = (c.toNat : Int)) (H : Hp) : CallO Try.prog 26 [.si (.ag [.val (.int .u8 (a : Int)), .val (.int .u8 (b : Int))]), pv (.int .u8 x)] H [] fun e H' G' => H' = H ∧ e = .ret (pv (.bool (decide (a ≤ c.toNat) && decide (c.toNat ≤ b)))) ∧ G' = [] := by
  refine CallO.of_body tab Try.func26 rfl (nt := Try.f26.ntmps) rfl (by kernel_rfl) ?_
  (conv => whnf)
  refine br.of (fun h1 => ?_) (fun h1 => ?_) <;> (conv => whnf)
  · have h1 := of_decide_eq_true h1
    rw [decide_eq_true (show a ≤ c.toNat by omega), Bool.true_and]
    refine ⟨rfl, ?_, rfl⟩
    show SE.ret (pv (.bool _)) = SE.ret (pv (.bool _))
    congr 3
    exact decide_eq_decide.2 (by omega)
  · have h1 := of_decide_eq_false h1
    rw [decide_eq_false (show ¬ a ≤ c.toNat by omega), Bool.false_and]
    exact ⟨rfl, rfl, rfl⟩
end Go.Kx.Js
