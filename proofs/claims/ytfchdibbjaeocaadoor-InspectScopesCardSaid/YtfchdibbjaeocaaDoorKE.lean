/- Where ways meet again: the state behind a piece of code told anew. Generic in the program; no condition of its own. -/
import Derived.Test.YtfchdibbjaeocaaDoorKD
namespace Go.Kx
open Go.RowKit
section
variable {P : Program} {n e : Nat} {D : Pin}
/-- The state is one of those that I tells of, told anew. -/
def Meets (e : Nat) (I : Fr → Hp → List SB → Prop) (F : Fr) (H : Hp) (G : List SB) : Prop :=
  ∃ F' G' σ, I F' H G' ∧ subOk e σ F' G' = true ∧ subG σ G σ G' ∧ subF σ F F'
theorem W.seqTo {x y : Code} {K : KT} {F : Fr} {H : Hp} {G : List SB} (I : Fr → Hp → List SB → Prop) (h : W P n e D x (thenK (Meets e I) K) F H G)
    (h2 : ∀ F' H' G', H.Le H' → I F' H' G' → codeL P n e D y K F' H' G') : W P n e D (.seq x y) K F H G :=
  W.seq (W.mono h fun xx F' H' G' hle he => by
    cases xx with
    | normal =>
      obtain ⟨F2, G2, σ, h1, h3, h4, h5⟩ := he
      exact W.sub σ (h2 F2 H' G2 hle h1).to h3 h4 h5
    | _ => exact he)
theorem codeL.seqTo {T : Tab} (hT : TabOk P T) {x y : Code} {K : KT} {F : Fr} {H : Hp} {G : List SB} (I : Fr → Hp → List SB → Prop) (h : codeX P T n e D x (thenK (Meets e I) K) F H G)
    (h2 : ∀ F' H' G', H.Le H' → I F' H' G' → codeL P n e D y K F' H' G') : codeL P n e D (.seq x y) K F H G := ⟨W.seqTo I (codeX_ok hT _ h) h2⟩
theorem WS.seqTo {T : Tab} (hT : TabOk P T) {x y : Code} {K : KT} {F : Fr} {H : Hp} {G : List SB} (I : Fr → Hp → List SB → Prop) (h : codeX P T n e D x (thenK (Meets e I) K) F H G)
    (h2 : ∀ F' H' G', H.Le H' → I F' H' G' → codeL P n e D y K F' H' G') : WS P n e D (.seq x y) K F H G := ⟨W.seqTo I (codeX_ok hT _ h) h2⟩
theorem codeL.ofS {c : Code} {K : KT} {F : Fr} {H : Hp} {G : List SB} (h : WS P n e D c K F H G) : codeL P n e D c K F H G := ⟨h.to⟩
/-- A scope; the walk behind a jump serves the first way to its label, too. -/
theorem WS.scopeR {c y : Code} {l : Nat} (hf : findLabel c l = some (.seq .skip y)) {K : KT} {F : Fr} {H : Hp} {G : List SB} (I : Nat → Fr → Hp → List SB → Prop) (m : Nat)
    (hr : ∀ m F' H' G', H.Le H' → I m F' H' G' → codeL P n e D y (scopeK e l I m K) F' H' G')
    (h0 : (∀ F' H' G', H.Le H' → I m F' H' G' → codeL P n e D y (scopeK e l I m K) F' H' G') → codeL P n e D c (scopeK e l I m K) F H G) : WS P n e D (.scope c) K F H G :=
  WS.scope hf I m (h0 (hr m)) fun m F' H' G' hle hI => ⟨W.seq (W.skip (hr m F' H' G' hle hI).to)⟩
theorem codeL.label {l : Nat} {y : Code} {K : KT} {F : Fr} {H : Hp} {G : List SB} (h : codeL P n e D y K F H G) : codeL P n e D (.seq (.label l) y) K F H G := ⟨W.seq (W.label h.to)⟩

theorem RdN.mono {H H' : Hp} (h : H.Le H') {A : Option Addr} {off : Nat} {xs : List Value} (hr : RdN H A off xs) : RdN H' A off xs :=
  let ⟨b, o, h1, h2⟩ := hr; ⟨b, o, h1, fun j x hx => h _ _ _ (h2 j x hx)⟩
theorem RdC.mono {H H' : Hp} (h : H.Le H') {A : Option Addr} {off : Nat} {x : Value} (hr : RdC H A off x) : RdC H' A off x :=
  let ⟨b, o, h1, h2⟩ := hr; ⟨b, o, h1, h _ _ _ h2⟩

/-! ### Cells told anew -/
theorem St.retell {w0 : World} {M : Nat → Prop} {H0 : Hp} {ρ : List Value} {H : Hp} {G : List SB} {w : World} (h : St w0 M H0 ρ H G w) {k : Nat} {t : TypeId} {cs cs' : List SC} (hk : G[k]? = some (.box t cs)) (hc : ∀ ys, All2 (SC.Is ρ) cs ys → All2 (SC.Is ρ) cs' ys) :
    St w0 M H0 ρ H (G.set k (.box t cs')) w := by
  have hkl := (List.getElem?_eq_some_iff.1 hk).1
  have hb : ∀ j, blkAt ρ (G.set k (.box t cs')) j = blkAt ρ G j := fun j => by
    by_cases hjk : k = j
    · subst hjk
      unfold blkAt
      rw [List.getElem?_set_self hkl, hk]
      cases ρ[k]? <;> rfl
    · unfold blkAt
      rw [List.getElem?_set_ne hjk]
  refine ⟨h.os, h.tape, h.output, h.size, h.old, h.hle, h.hin, h.hnew, by simp [h.len], ?_, fun j x hx => h.own j x (by rw [← hb]; exact hx), fun i j x hi hj => h.inj i j x (by rw [← hb]; exact hi) (by rw [← hb]; exact hj)⟩
  intro j s1 r1 h1 h2
  by_cases hjk : k = j
  · subst hjk
    rw [List.getElem?_set_self hkl] at h1
    injection h1 with h1; subst h1
    obtain ⟨g, ys, e1, e2, e3⟩ := h.ok k _ r1 hk h2
    exact ⟨g, ys, e1, e2, hc ys e3⟩
  · rw [List.getElem?_set_ne hjk] at h1
    exact h.ok j s1 r1 h1 h2
theorem all2_set_left {ρ : List Value} {c c' : SC} : ∀ {cs : List SC} {ys : List Value} {i : Nat}, cs[i]? = some c → (∀ y, c.Is ρ y → c'.Is ρ y) → All2 (SC.Is ρ) cs ys → All2 (SC.Is ρ) (cs.set i c') ys
  | [], _, i, h, _, _ => by simp at h
  | a :: l, _, 0, h, hc, .cons h1 h2 => by simp at h; subst h; exact .cons (hc _ h1) h2
  | a :: l, _, i + 1, h, hc, .cons h1 h2 => .cons h1 (all2_set_left (i := i) (by simpa using h) hc h2)
/-- A cell that holds nil, told as an empty row. -/
theorem St.nilCell {w0 : World} {M : Nat → Prop} {H0 : Hp} {ρ : List Value} {H : Hp} {G : List SB} {w : World} (h : St w0 M H0 ρ H G w) {k i : Nat} {t : TypeId} {cs : List SC} (et sz : Nat) (hk : G[k]? = some (.box t cs)) (hi : cs[i]? = some (.val (.slice none 0 0))) :
    St w0 M H0 (ρ ++ [.slice none 0 0]) H (G.set k (.box t (cs.set i (.self G.length))) ++ [.row et sz 0 []]) w := by
  have h1 := h.adopt (s := .row et sz 0 []) (r := .slice none 0 0) (OwnRow.nil w et sz) (fun g hg => by cases hg)
  have hkl := (List.getElem?_eq_some_iff.1 hk).1
  have h2 := h1.retell (k := k) (t := t) (cs := cs) (cs' := cs.set i (.self G.length)) (by rw [List.getElem?_append_left hkl]; exact hk) (fun ys hy => all2_set_left (i := i) hi (fun y hy => by
    obtain rfl : y = _ := hy
    show (ρ ++ [Value.slice none 0 0])[G.length]? = _
    rw [← h.len]; simp) hy)
  rw [List.set_append_left k _ hkl] at h2
  exact h2
theorem CallO.nilCell {f : FuncId} {svs : List SV} {H : Hp} {G : List SB} {K0 K : SE → Hp → List SB → Prop} (h : CallO P f svs H G K0)
    (hK : ∀ e H' G', H.Le H' → K0 e H' G' → K e H' G' ∨ ∃ k i t cs et sz, G'[k]? = some (.box t cs) ∧ cs[i]? = some (.val (.slice none 0 0)) ∧ K e H' (G'.set k (.box t (cs.set i (.self G'.length))) ++ [.row et sz 0 []])) : CallO P f svs H G K := by
  intro w0 M hgd H0 ρ w vs hs hv
  refine (h w0 M hgd H0 ρ w vs hs hv).mono fun e w' he => ?_
  cases e with
  | returned v =>
    obtain ⟨sv, ρ', H', G', h1, h2, h3, h4, h5⟩ := he
    rcases hK _ _ _ h4 h5 with h6 | ⟨k, i, t, cs, et, sz, h6, h7, h8⟩
    · exact ⟨sv, ρ', H', G', h1, h2, h3, h4, h6⟩
    · exact ⟨sv, _, H', _, h1.nilCell et sz h6 h7, h2.trans (Pre.append _ _), h3.mono (Pre.append _ _), h4, h8⟩
  | panicked ch =>
    obtain ⟨ρ', H', G', h1, h2, h4, h5⟩ := he
    rcases hK _ _ _ h4 h5 with h6 | ⟨k, i, t, cs, et, sz, h6, h7, h8⟩
    · exact ⟨ρ', H', G', h1, h2, h4, h6⟩
    · exact ⟨_, H', _, h1.nilCell et sz h6 h7, h2.trans (Pre.append _ _), h4, h8⟩
  | outgrown => exact he
end
end Go.Kx
