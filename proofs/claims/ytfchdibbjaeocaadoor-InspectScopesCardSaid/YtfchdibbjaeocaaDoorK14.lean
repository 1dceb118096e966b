/- Contracts of functions in use: what a call comes to among the blocks at hand, laid open by reduction. Generic in the program; no condition of its own. -/
import Derived.Test.YtfchdibbjaeocaaDoorK13
namespace Go.Kx
open Go.RowKit

/-! ### Names of blocks, turned -/
def idX : List Nat → Nat → (Nat → Prop) → Prop
  | [], _, K => K 0
  | k :: _, 0, K => K k
  | _ :: r, i + 1, K => idX r i K
theorem idX_ok {σ : List Nat} {i : Nat} {K : Nat → Prop} (h : idX σ i K) : K (σ.getD i 0) := by
  induction σ generalizing i with
  | nil => exact h
  | cons k r ih =>
    cases i with
    | zero => exact h
    | succ i => have := ih h; simpa using this
def renCaps (σ : List Nat) : List (Nat × Nat) → (List (Nat × Nat) → Prop) → Prop
  | [], K => K []
  | (k, o) :: r, K => idX σ k fun k' => renCaps σ r fun l => K ((k', o) :: l)
theorem renCaps_ok {σ : List Nat} {l : List (Nat × Nat)} {K : List (Nat × Nat) → Prop} (h : renCaps σ l K) : K (l.map fun p => (σ.getD p.1 0, p.2)) := by
  induction l generalizing K with
  | nil => exact h
  | cons p r ih => exact ih (idX_ok h)
def renC (σ : List Nat) : SC → (SC → Prop) → Prop
  | .ptr k off, K => idX σ k fun k' => K (.ptr k' off)
  | .self k, K => idX σ k fun k' => K (.self k')
  | .fn f n caps, K => renCaps σ caps fun l => K (.fn f n l)
  | .val x, K => K (.val x)
  | .pp A off, K => K (.pp A off)
  | .any, K => K .any
theorem renC_ok {σ : List Nat} {c : SC} {K : SC → Prop} (h : renC σ c K) : K (c.ren σ) := by
  cases c with
  | ptr k off => exact idX_ok (K := fun k' => K (.ptr k' off)) h
  | self k => exact idX_ok (K := fun k' => K (.self k')) h
  | fn f n caps => exact renCaps_ok (K := fun l => K (.fn f n l)) h
  | val x => exact h
  | pp A off => exact h
  | any => exact h
def renL (σ : List Nat) : List SC → (List SC → Prop) → Prop
  | [], K => K []
  | c :: r, K => renC σ c fun c' => renL σ r fun l => K (c' :: l)
theorem renL_ok {σ : List Nat} {l : List SC} {K : List SC → Prop} (h : renL σ l K) : K (l.map (SC.ren σ)) := by
  induction l generalizing K with
  | nil => exact h
  | cons p r ih => exact ih (renC_ok h)
def renG (σ : List Nat) : SG → (SG → Prop) → Prop
  | .ce c, K => renC σ c fun c' => K (.ce c')
  | .ag l, K => renL σ l fun l' => K (.ag l')
theorem renG_ok {σ : List Nat} {c : SG} {K : SG → Prop} (h : renG σ c K) : K (c.ren σ) := by
  cases c with
  | ce x => exact renC_ok h
  | ag l => exact renL_ok h
def renGL (σ : List Nat) : List SG → (List SG → Prop) → Prop
  | [], K => K []
  | c :: r, K => renG σ c fun c' => renGL σ r fun l => K (c' :: l)
theorem renGL_ok {σ : List Nat} {l : List SG} {K : List SG → Prop} (h : renGL σ l K) : K (l.map (SG.ren σ)) := by
  induction l generalizing K with
  | nil => exact h
  | cons p r ih => exact ih (renG_ok h)
def renV (σ : List Nat) : SV → (SV → Prop) → Prop
  | .si c, K => renG σ c fun c' => K (.si c')
  | .tu l, K => renGL σ l fun l' => K (.tu l')
theorem renV_ok {σ : List Nat} {c : SV} {K : SV → Prop} (h : renV σ c K) : K (c.ren σ) := by
  cases c with
  | si x => exact renG_ok h
  | tu l => exact renGL_ok h
def renB (σ : List Nat) : SB → (SB → Prop) → Prop
  | .box t cs, K => renL σ cs fun l => K (.box t l)
  | s, K => K s
theorem renB_ok {σ : List Nat} {s : SB} {K : SB → Prop} (h : renB σ s K) : K (s.ren σ) := by
  cases s with
  | box t cs => exact renL_ok h
  | _ => exact h
def renE (σ : List Nat) : SE → (SE → Prop) → Prop
  | .ret v, K => renV σ v fun v' => K (.ret v')
  | .pan ch, K => K (.pan ch)
theorem renE_ok {σ : List Nat} {s : SE} {K : SE → Prop} (h : renE σ s K) : K (s.ren σ) := by
  cases s with
  | ret v => exact renV_ok h
  | pan ch => exact h
/-- The blocks that a call has made stand behind all. -/
def extX : List Nat → List SB → Nat → (List Nat → Prop) → Prop
  | k :: r, _ :: L, n, K => extX r L n fun l => K (k :: l)
  | [], _ :: L, n, K => extX [] L (n + 1) fun l => K (n :: l)
  | σ, [], _, K => K σ
theorem extX_nil {L : List SB} {n : Nat} {K : List Nat → Prop} (h : extX [] L n K) : K ((List.range L.length).map (n + ·)) := by
  induction L generalizing n K with
  | nil => exact h
  | cons s L ih =>
    have := ih h
    rw [List.length_cons, List.range_succ_eq_map, List.map_cons, List.map_map]
    have e : (List.range L.length).map ((fun x => n + x) ∘ Nat.succ) = (List.range L.length).map (n + 1 + ·) := by
      apply List.map_congr_left; intro x _; simp; omega
    rw [e]; exact this
theorem extX_ok {σ : List Nat} {L : List SB} {n : Nat} {K : List Nat → Prop} (h : extX σ L n K) : K (σ ++ newIds n σ.length L.length) := by
  induction σ generalizing L K with
  | nil => simpa [newIds] using extX_nil h
  | cons k r ih =>
    cases L with
    | nil => simpa [newIds, extX] using h
    | cons s L =>
      have := ih h
      simpa [newIds, Nat.add_sub_add_right] using this
def mergeX (σ' : List Nat) : List SB → List Nat → List SB → (List SB → Prop) → Prop
  | G, _, [], K => K G
  | G, k :: σ, s :: L, K => renB σ' s fun s' => setG G k s' fun G' => mergeX σ' G' σ L K
  | G, [], s :: L, K => renB σ' s fun s' => appG G s' fun G' _ => mergeX σ' G' [] L K
theorem mergeX_ok {σ' : List Nat} : ∀ {L : List SB} {σ : List Nat} {G : List SB} {K : List SB → Prop}, mergeX σ' G σ L K → K (mergeG G σ (L.map (SB.ren σ')))
  | [], σ, G, K, h => by cases σ <;> simpa [mergeX, mergeG] using h
  | s :: L, [], G, K, h => by
    have h1 := appG_ok (renB_ok h)
    have h2 := mergeX_ok (L := L) (σ := []) h1
    exact h2
  | s :: L, k :: σ, G, K, h => by
    have h1 := (setG_ok (renB_ok h)).2
    have h2 := mergeX_ok (L := L) (σ := σ) h1
    exact h2
/-- How a call ends, told with the caller's blocks. -/
def useK (σ : List Nat) (G : List SB) (e : SE) (G0' : List SB) (K : SE → List SB → Prop) : Prop :=
  appG G .dead fun _ n => extX σ G0' n fun σ' => renE σ' e fun e' => mergeX σ' G σ G0' fun G' => K e' G'
theorem useK_ok {σ : List Nat} {G : List SB} {e : SE} {G0' : List SB} {K : SE → List SB → Prop} (h : useK σ G e G0' K) :
    K (e.ren (σ ++ newIds G.length σ.length G0'.length)) (mergeG G σ (G0'.map (SB.ren (σ ++ newIds G.length σ.length G0'.length)))) :=
  mergeX_ok (renE_ok (extX_ok (appG_ok h)))
def useG (σ : List Nat) (G : List SB) : List Nat → List SB → Prop
  | [], [] => True
  | k :: ks, s :: r => getG G k (fun s' => s' = s.ren σ) ∧ useG σ G ks r
  | _, _ => False
theorem useG_ok {σ : List Nat} {G : List SB} : ∀ {ks : List Nat} {L : List SB}, useG σ G ks L → ks.length = L.length ∧ ∀ (i : Nat) (s : SB), L[i]? = some s → ∃ k, ks[i]? = some k ∧ G[k]? = some (s.ren σ)
  | [], [], _ => ⟨rfl, fun i s h => by simp at h⟩
  | [], _ :: _, h => h.elim
  | _ :: _, [], h => h.elim
  | k :: ks, s :: r, h => by
    obtain ⟨h1, h2⟩ := h
    obtain ⟨s', h3, h4⟩ := getG_ok h1
    obtain ⟨h5, h6⟩ := useG_ok h2
    refine ⟨by simp [h5], fun i x hi => ?_⟩
    cases i with
    | zero => simp at hi; subst hi; exact ⟨k, rfl, by rw [h3, h4]⟩
    | succ i => simpa using h6 i x (by simpa using hi)
def useOk (σ : List Nat) (svs0 : List SV) (G0 : List SB) : Bool := nodupB σ && G0.all (SB.wf σ.length) && svs0.all (SV.wf σ.length)
section
variable {P : Program}
/-- **A contract in use.** σ: where the blocks that it speaks of stand. -/
theorem CallS.use {f : FuncId} {svs0 svs : List SV} {H : Hp} {G0 G : List SB} {K0 K : SE → Hp → List SB → Prop} (h : CallO P f svs0 H G0 K0) (σ : List Nat) (hb : useOk σ svs0 G0 = true) (hv : svs0.map (SV.ren σ) = svs) (hG : useG σ G σ G0)
    (hK : ∀ e H' G0', H.Le H' → K0 e H' G0' → useK σ G e G0' fun e' G' => K e' H' G') : CallS P f svs H G K := by
  subst hv
  simp only [useOk, Bool.and_eq_true] at hb
  obtain ⟨⟨h1, h2⟩, h3⟩ := hb
  obtain ⟨h4, h5⟩ := useG_ok hG
  refine ⟨h.frame σ h4 h5 (nodupB_ok h1) h2 h3 fun e H' G0' hle hk => ?_⟩
  have := useK_ok (hK e H' G0' hle hk)
  rw [← h4]; exact this
/-- What a call leaves, told anew. -/
theorem CallO.sub {f : FuncId} {svs : List SV} {H : Hp} {G : List SB} {K0 K : SE → Hp → List SB → Prop} (h : CallO P f svs H G K0)
    (hK : ∀ e H' G', H.Le H' → K0 e H' G' → match e with
      | .ret v => ∃ v2 G2 σ, subOk G.length σ [(0, v2)] G2 = true ∧ subG σ G' σ G2 ∧ v = v2.ren σ ∧ K (.ret v2) H' G2
      | .pan ch => K (.pan ch) H' G') : CallO P f svs H G K := by
  intro w0 M hgd H0 ρ w vs hs hv
  refine (h w0 M hgd H0 ρ w vs hs hv).mono fun e w' he => ?_
  cases e with
  | returned v =>
    obtain ⟨sv, ρ', H', G', h1, h2, h3, h4, h5⟩ := he
    obtain ⟨v2, G2, σ, h6, h7, h8, h9⟩ := hK _ _ _ h4 h5
    obtain ⟨ρ2, a1, a2, a3⟩ := St.sub (e := G.length) (F := [(0, sv)]) (F' := [(0, v2)]) (tmps := #[v]) h1 (fun i s hm => by
      rcases List.mem_singleton.1 hm with hm
      injection hm with e1 e2; subst e1 e2
      exact ⟨v, rfl, h3⟩) h6 h7 ⟨by simpa [getX] using h8, trivial⟩
    obtain ⟨v', e1, e2⟩ := a3 0 v2 List.mem_cons_self
    simp at e1; subst e1
    refine ⟨v2, ρ2, H', G2, a1, fun k r hk => a2 k r (by rw [← hs.len]; exact (List.getElem?_eq_some_iff.1 hk).1) (h2 k r hk), e2, h4, h9⟩
  | panicked ch => obtain ⟨ρ', H', G', h1, h2, h4, h5⟩ := he; exact ⟨ρ', H', G', h1, h2, h4, hK _ _ _ h4 h5⟩
  | outgrown => exact he
end
theorem wrap64 {x : Int} (h : -9223372036854775808 ≤ x) (h' : x < 9223372036854775808) : IntKind.i64.wrap x = x := by
  simp only [IntKind.wrap, IntKind.bits, IntKind.signed]
  simp
  omega
end Go.Kx
