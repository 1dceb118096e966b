/- The walk, on: loops, and regions that draw their order. Generic in the program; no condition of its own. -/
import Derived.Test.YtfchdibbjaeocaaDoorK12
import Derived.LoopN
import Derived.ScopeJumps
namespace Go.Kx
open Go.RowKit

section
variable {P : Program} {n e : Nat} {D : Pin}
/-! ### Loops -/
/-- The state told anew: newer blocks numbered anew, or let go. -/
def subG (σ : List Nat) (G : List SB) : List Nat → List SB → Prop
  | _, [] => True
  | [], _ :: _ => False
  | k :: ks, s :: r => getG G k (fun s' => subB σ s s') ∧ subG σ G ks r
where subB (σ : List Nat) (s s' : SB) : Prop :=
  match s with
  | .dead => True
  | .arr t xs => s' = .arr t xs ∨ s' = .box t (xs.map .val)
  | s => s' = s.ren σ
def subF (σ : List Nat) (F : Fr) : Fr → Prop
  | [] => True
  | (i, sv) :: r => getX F i (fun sv' => sv' = sv.ren σ) ∧ subF σ F r
def nodupB : List Nat → Bool
  | [] => true
  | k :: r => !(r.any (Nat.beq k)) && nodupB r
def eqL : List Nat → List Nat → Bool
  | [], [] => true
  | a :: r, b :: s => Nat.beq a b && eqL r s
  | _, _ => false
/-- e: the blocks at the beginning; l: all of the new state. -/
def subOk (e : Nat) (σ : List Nat) (F' : Fr) (G' : List SB) : Bool :=
  Nat.ble e σ.length && eqL (σ.take e) (List.range e) && Nat.beq σ.length G'.length && nodupB σ && G'.all (SB.wf σ.length) && F'.all (fun p => p.2.wf σ.length)
theorem eqL_eq : ∀ {l m : List Nat}, eqL l m = true → l = m
  | [], [], _ => rfl
  | a :: r, b :: s, h => by
    simp only [eqL, Bool.and_eq_true] at h
    rw [Nat.eq_of_beq_eq_true h.1, eqL_eq h.2]
  | [], _ :: _, h => by cases h
  | _ :: _, [], h => by cases h
theorem nodupB_ok : ∀ {l : List Nat}, nodupB l = true → l.Nodup
  | [], _ => List.nodup_nil
  | k :: r, h => by
    simp only [nodupB, Bool.and_eq_true, Bool.not_eq_true'] at h
    refine List.nodup_cons.2 ⟨fun hm => ?_, nodupB_ok h.2⟩
    have := List.any_eq_false.1 h.1 k hm
    simp at this
theorem subG_ok {σ : List Nat} {G : List SB} : ∀ {ks : List Nat} {G' : List SB}, subG σ G ks G' → ∀ (i : Nat) (s : SB), G'[i]? = some s → ∃ k s', ks[i]? = some k ∧ G[k]? = some s' ∧ (s = .dead ∨ s' = s.ren σ ∨ ∃ t xs, s = .arr t xs ∧ s' = .box t (xs.map .val))
  | _, [], _, i, s, h => by simp at h
  | [], _ :: _, h, _, _, _ => h.elim
  | k :: ks, s0 :: r, h, i, s, hi => by
    obtain ⟨h1, h2⟩ := h
    cases i with
    | zero =>
      simp at hi; subst hi
      obtain ⟨s', h3, h4⟩ := getG_ok h1
      refine ⟨k, s', rfl, h3, ?_⟩
      unfold subG.subB at h4
      split at h4
      · exact .inl rfl
      · rcases h4 with h4 | h4
        · exact .inr (.inl h4)
        · exact .inr (.inr ⟨_, _, rfl, h4⟩)
      · exact .inr (.inl h4)
    | succ i =>
      obtain ⟨k', s', h3, h4⟩ := subG_ok h2 i s (by simpa using hi)
      exact ⟨k', s', by simpa using h3, h4⟩
theorem subF_ok {σ : List Nat} {F : Fr} : ∀ {F' : Fr}, subF σ F F' → ∀ i sv, (i, sv) ∈ F' → (i, sv.ren σ) ∈ F
  | [], _, i, sv, h => by simp at h
  | (j, sv0) :: r, h, i, sv, hm => by
    obtain ⟨h1, h2⟩ := h
    rcases List.mem_cons.1 hm with hm | hm
    · injection hm with ha hb; subst ha hb
      obtain ⟨sv', h3, h4⟩ := getX_ok h1
      rw [← h4]; exact h3
    · exact subF_ok h2 i sv hm
theorem all2_vals {ρ : List Value} : ∀ {xs ys : List Value}, All2 (SC.Is ρ) (xs.map .val) ys → ys = xs
  | [], ys, h => by cases h; rfl
  | x :: xs, ys, h => by
    cases h with | cons h1 h2 =>
      have e1 : _ = x := h1
      rw [e1, all2_vals h2]
/-- What a state told anew is good for. -/
theorem St.sub {w0 : World} {M : Nat → Prop} {H0 : Hp} {ρ : List Value} {H : Hp} {G : List SB} {w : World} (h : St w0 M H0 ρ H G w) {F F' : Fr} {G' : List SB} {σ : List Nat} {tmps : Array Value} (hf : FOk ρ F tmps)
    (ho : subOk e σ F' G' = true) (hG : subG σ G σ G') (hF : subF σ F F') : ∃ ρ', St w0 M H0 ρ' H G' w ∧ PreE e ρ ρ' ∧ FOk ρ' F' tmps := by
  simp only [subOk, Bool.and_eq_true] at ho
  obtain ⟨⟨⟨⟨⟨he, hr⟩, hl⟩, hn⟩, hwG⟩, hwF⟩ := ho
  have hr := eqL_eq hr
  have hl := Nat.eq_of_beq_eq_true hl
  have hn := nodupB_ok hn
  have he : e ≤ σ.length := by simpa using he
  let ρ' : List Value := σ.map fun k => ρ.getD k (.tuple #[])
  have hσ : ∀ (i k : Nat), σ[i]? = some k → k < ρ.length := fun i k hi => by
    have hi' : i < G'.length := by rw [← hl]; exact (List.getElem?_eq_some_iff.1 hi).1
    obtain ⟨k', s', h1, h2, _⟩ := subG_ok hG i G'[i] (List.getElem?_eq_getElem hi')
    rw [hi] at h1; injection h1 with h1; subst h1
    rw [h.len]; exact (List.getElem?_eq_some_iff.1 h2).1
  have hρ' : ∀ (k k' : Nat), σ[k]? = some k' → ρ'[k]? = ρ[k']? := fun k k' e1 => by
    have hlt := hσ k k' e1
    simp [ρ', e1, List.getD_eq_getElem?_getD, List.getElem?_eq_getElem hlt]
  have hblk : ∀ i g, blkAt ρ' G' i = some g → ∃ k, σ[i]? = some k ∧ blkAt ρ G k = some g := fun i g hg => by
    obtain ⟨s, r, h1, h2, h3⟩ := blkAt_some hg
    obtain ⟨k, s', h4, h5, h6⟩ := subG_ok hG i s h1
    refine ⟨k, h4, ?_⟩
    rcases h6 with rfl | rfl | ⟨t, xs, rfl, rfl⟩
    · simp [SB.blk] at h3
    · rw [hρ' i k h4] at h2
      rw [blkAt_eq h5 h2, blk_ren]; exact h3
    · rw [hρ' i k h4] at h2
      rw [blkAt_eq h5 h2]; exact h3
  refine ⟨ρ', ⟨h.os, h.tape, h.output, h.size, h.old, h.hle, h.hin, h.hnew, by simp [ρ', hl], ?_, ?_, ?_⟩, ?_, ?_⟩
  · intro i s r h1 h2
    obtain ⟨k, s', h4, h5, h6⟩ := subG_ok hG i s h1
    rcases h6 with rfl | rfl | ⟨t, xs, rfl, rfl⟩
    · trivial
    rotate_left
    · rw [hρ' i k h4] at h2
      obtain ⟨g, ys, e1, e2, e3⟩ := h.ok k _ r h5 h2
      have e4 : ys = xs := by
        exact all2_vals e3
      exact ⟨g, e1, by rw [← e4]; exact e2⟩
    · rw [hρ' i k h4] at h2
      exact ren_bwdB hρ' (List.all_eq_true.1 hwG _ (List.mem_of_getElem? h1)) (h.ok k _ r h5 h2)
  · intro i g hg
    obtain ⟨k, _, h2⟩ := hblk i g hg
    exact h.own k g h2
  · intro i j g hg hg'
    obtain ⟨k, h1, h2⟩ := hblk i g hg
    obtain ⟨k', h1', h2'⟩ := hblk j g hg'
    have := h.inj k k' g h2 h2'
    subst this
    exact (List.getElem?_inj (List.getElem?_eq_some_iff.1 h1).1 hn).1 (h1.trans h1'.symm)
  · intro k r hk e1
    have h1 : σ[k]? = some k := by
      have : (σ.take e)[k]? = (List.range e)[k]? := by rw [hr]
      rw [List.getElem?_take_of_lt hk, List.getElem?_range hk] at this
      exact this
    rw [hρ' k k h1]; exact e1
  · intro i sv hm
    obtain ⟨v, h1, h2⟩ := hf i _ (subF_ok hF i sv hm)
    exact ⟨v, h1, ren_bwdV hρ' (List.all_eq_true.1 hwF _ hm) h2⟩

/-- A walk that is to go on. -/
structure codeL (P : Program) (n e : Nat) (D : Pin) (c : Code) (K : KT) (F : Fr) (H : Hp) (G : List SB) : Prop where of ::
  to : W P n e D c K F H G
theorem codeL.go {T : Tab} (hT : TabOk P T) {c : Code} {K : KT} {F : Fr} {H : Hp} {G : List SB} (h : codeX P T n e D c K F H G) : codeL P n e D c K F H G := ⟨codeX_ok hT c h⟩
/-- The next round. -/
def Again (e : Nat) (I : Nat → Fr → Hp → List SB → Prop) (m : Nat) (F : Fr) (H : Hp) (G : List SB) : Prop :=
  ∃ m', m' < m ∧ ∃ F' G' σ, I m' F' H G' ∧ subOk e σ F' G' = true ∧ subG σ G σ G' ∧ subF σ F F'
def loopK (e : Nat) (I : Nat → Fr → Hp → List SB → Prop) (m : Nat) (K : KT) : KT
  | .normal, F, H, G => Again e I m F H G
  | x, F, H, G => K x F H G
/-- A loop: I m is what holds ahead of a round; m falls. -/
theorem W.loop {c : Code} {K : KT} {F : Fr} {H : Hp} {G : List SB} (I : Nat → Fr → Hp → List SB → Prop) (m : Nat) (h0 : I m F H G)
    (hr : ∀ m F' H' G', H.Le H' → I m F' H' G' → W P n e D c (loopK e I m K) F' H' G') : W P n e D (.loop c) K F H G := by
  intro w0 M hgd H0 ρ a w hs hf hd hn
  have key : ∀ m, ∀ (ρ1 : List Value) (F1 : Fr) (H1 : Hp) (G1 : List SB) (a : Act) (w : World), I m F1 H1 G1 → H.Le H1 → PreE e ρ ρ1 → St w0 M H0 ρ1 H1 G1 w → FOk ρ1 F1 a.tmps → D.On a → a.tmps.size = n →
      Code.rounds P c (PostX n e D w0 M H0 ρ H K) (m + 1) a w := by
    intro m
    induction m using Nat.strongRecOn with
    | _ m ih =>
      intro ρ1 F1 H1 G1 a w hI hle hp hs hf hd hn
      have mono : ∀ (j k : Nat) (a : Act) (w : World), j ≤ k → Code.rounds P c (PostX n e D w0 M H0 ρ H K) j a w → Code.rounds P c (PostX n e D w0 M H0 ρ H K) k a w := by
        intro j
        induction j with
        | zero => intro k a w _ h; exact h.elim
        | succ j ihj =>
          intro k a w hjk h
          obtain ⟨k, rfl⟩ : ∃ k', k = k' + 1 := ⟨k - 1, by omega⟩
          refine wp_mono (c := c) h fun x a w hx => ?_
          cases x with
          | normal => exact ihj k a w (by omega) hx
          | _ => exact hx
      refine wp_mono (c := c) (hr m F1 H1 G1 hle hI w0 M hgd H0 ρ1 a w hs hf hd hn) fun x a w hx => ?_
      cases x with
      | normal =>
        obtain ⟨h1, h0, F', ρ', H', G', h2, hq, h3, h4, m', hm, F2, G2, σ, h5, h6, h7, h8⟩ := hx
        obtain ⟨ρ2, h9, h10, h11⟩ := St.sub (e := e) h2 h3 h6 h7 h8
        exact mono (m' + 1) m a w hm (ih m' hm ρ2 F2 H' G2 a w h5 (hle.trans h4) ((hp.trans hq).trans h10) h9 h11 h1 h0)
      | panic ch => exact PostX.le hp hle _ _ _ hx
      | outgrown => exact hx.elim
      | ret => exact PostX.le (K := K) hp hle .ret _ _ hx
      | exit id => exact PostX.le (K := K) hp hle (.exit id) _ _ hx
      | goto l => exact PostX.le (K := K) hp hle (.goto l) _ _ hx
  exact wp_loop_rounds (m + 1) (key m ρ F H G a w h0 (.refl _) (.refl _ _) hs hf hd hn)

/-- The same, from a state told anew. -/
theorem WS.loop {c : Code} {K : KT} {F : Fr} {H : Hp} {G : List SB} (I : Nat → Fr → Hp → List SB → Prop) (m : Nat) (h0 : Again e I m F H G)
    (hr : ∀ m F' H' G', H.Le H' → I m F' H' G' → codeL P n e D c (loopK e I m K) F' H' G') : WS P n e D (.loop c) K F H G := by
  refine ⟨fun w0 M hgd H0 ρ a w hs hf hd hn => ?_⟩
  obtain ⟨m', _, F', G', σ, h1, h2, h3, h4⟩ := h0
  obtain ⟨ρ2, a1, a2, a3⟩ := St.sub (e := e) hs hf h2 h3 h4
  exact wp_mono (W.loop I m' h1 (fun m F' H' G' hle hI => (hr m F' H' G' hle hI).to) w0 M hgd H0 ρ2 a w a1 a3 hd hn) (PostX.le a2 (.refl _))

/-! ### Jumps back -/
def scopeK (e l : Nat) (I : Nat → Fr → Hp → List SB → Prop) (m : Nat) (K : KT) : KT
  | .goto j, F, H, G => match Nat.beq j l with
    | true => Again e I m F H G
    | false => False
  | x, F, H, G => K x F H G
theorem least {p : Nat → Prop} (h : ∃ m, p m) : ∃ m, p m ∧ ∀ k, p k → m ≤ k := by
  obtain ⟨m, hm⟩ := h
  induction m using Nat.strongRecOn with
  | _ m ih =>
    by_cases hk : ∃ k, k < m ∧ p k
    · obtain ⟨k, h1, h2⟩ := hk; exact ih k h1 h2
    · exact ⟨m, hm, fun k hp => Nat.le_of_not_lt fun hlt => hk ⟨k, hlt, hp⟩⟩
/-- A scope in which the run jumps back to label l: I m is what holds behind such a jump; m falls. -/
theorem WS.scope {c rest : Code} {l : Nat} (hf : findLabel c l = some rest) {K : KT} {F : Fr} {H : Hp} {G : List SB} (I : Nat → Fr → Hp → List SB → Prop) (m : Nat)
    (h0 : codeL P n e D c (scopeK e l I m K) F H G)
    (hr : ∀ m F' H' G', H.Le H' → I m F' H' G' → codeL P n e D rest (scopeK e l I m K) F' H' G') : WS P n e D (.scope c) K F H G := by
  refine ⟨fun w0 M hgd H0 ρ a w hs hfr hd hn => ?_⟩
  let J' : Nat → Act → World → Prop := fun m a w => D.On a ∧ a.tmps.size = n ∧ ∃ F1 ρ1 H1 G1, St w0 M H0 ρ1 H1 G1 w ∧ PreE e ρ ρ1 ∧ FOk ρ1 F1 a.tmps ∧ H.Le H1 ∧ I m F1 H1 G1
  have again : ∀ (m : Nat) (ρ1 : List Value) (H1 : Hp) (x : Exit) (a : Act) (w : World), PreE e ρ ρ1 → H.Le H1 → PostX n e D w0 M H0 ρ1 H1 (scopeK e l I m K) x a w →
      Exit.jump l (fun a w => ∃ m', m' < m ∧ J' m' a w) (PostX n e D w0 M H0 ρ H K) x a w := by
    intro m ρ1 H1 x a w hp hle hx
    cases x with
    | goto j =>
      obtain ⟨h1, hsz, F', ρ', H', G', h2, hq, h3, h4, h5⟩ := hx
      simp only [scopeK] at h5
      by_cases hj : j = l
      · subst hj
        rw [Nat.beq_refl] at h5
        obtain ⟨m', hm, F2, G2, σ, a1, a2, a3, a4⟩ := h5
        obtain ⟨ρ2, h9, h10, h11⟩ := St.sub (e := e) h2 h3 a2 a3 a4
        exact ⟨rfl, m', hm, h1, hsz, F2, ρ2, H', G2, h9, (hp.trans hq).trans h10, h11, hle.trans h4, a1⟩
      · have hb : Nat.beq j l = false := by
          cases hb : Nat.beq j l with
          | true => exact absurd (Nat.eq_of_beq_eq_true hb) hj
          | false => rfl
        rw [hb] at h5
        exact h5.elim
    | normal => exact PostX.le (K := K) hp hle .normal _ _ hx
    | ret => exact PostX.le (K := K) hp hle .ret _ _ hx
    | exit id => exact PostX.le (K := K) hp hle (.exit id) _ _ hx
    | panic ch => exact PostX.le (n := n) (K := K) hp hle (.panic ch) _ _ hx
    | outgrown => exact hx.elim
  have jm : ∀ {J1 J2 : Act → World → Prop} {Q : Exit → Act → World → Prop} {x : Exit} {a : Act} {w : World}, (∀ a w, J1 a w → J2 a w) → Exit.jump l J1 Q x a w → Exit.jump l J2 Q x a w := by
    intro J1 J2 Q x a w h12 h
    cases x with
    | goto j => exact ⟨h.1, h12 _ _ h.2⟩
    | _ => exact h
  let μ : Act → World → Nat := fun a w => by
    classical
    exact if h : ∃ m, J' m a w then Classical.choose (least h) else 0
  have hμ : ∀ a w m, J' m a w → μ a w ≤ m ∧ J' (μ a w) a w := by
    intro a w m h
    have hex : ∃ m, J' m a w := ⟨m, h⟩
    classical
    have e1 : μ a w = Classical.choose (least hex) := by
      show (if h : ∃ m, J' m a w then Classical.choose (least h) else 0) = _
      rw [dif_pos hex]
    rw [e1]
    have := Classical.choose_spec (least hex)
    exact ⟨this.2 m h, this.1⟩
  refine wp_scope_jumps l (fun a w => ∃ m, J' m a w) μ hf ?_ ?_
  · refine wp_mono (h0.to w0 M hgd H0 ρ a w hs hfr hd hn) fun x a w hx => ?_
    exact jm (fun a w ⟨m', _, h⟩ => ⟨m', h⟩) (again m ρ H x a w (.refl _ _) (.refl _) hx)
  · rintro a w ⟨m1, hm1⟩
    obtain ⟨h1, h2⟩ := hμ a w m1 hm1
    obtain ⟨b1, b2, F1, ρ1, H1, G1, b3, b4, b5, b6, b7⟩ := h2
    refine wp_mono ((hr _ F1 H1 G1 b6 b7).to w0 M hgd H0 ρ1 a w b3 b5 b1 b2) fun x a' w' hx => ?_
    refine jm ?_ (again (μ a w) ρ1 H1 x a' w' b4 b6 hx)
    rintro a2 w2 ⟨m', hm', hj'⟩
    exact ⟨⟨m', hj'⟩, Nat.lt_of_le_of_lt (hμ a2 w2 m' hj').1 hm'⟩

/-- Two pieces, the second to be walked by itself. -/
theorem W.seqS {x y : Code} {K : KT} {F : Fr} {H : Hp} {G : List SB} (h : W P n e D x (thenK (WS P n e D y K) K) F H G) : W P n e D (.seq x y) K F H G :=
  W.seq (W.mono h fun xx F' H' G' _ he => by
    cases xx with
    | normal => exact WS.to he
    | _ => exact he)
/-- From a state told anew. -/
theorem W.sub {c : Code} {K : KT} {F F' : Fr} {H : Hp} {G G' : List SB} (σ : List Nat) (h : W P n e D c K F' H G') (ho : subOk e σ F' G' = true) (hG : subG σ G σ G') (hF : subF σ F F') : W P n e D c K F H G := by
  intro w0 M hgd H0 ρ a w hs hf hd hn
  obtain ⟨ρ2, a1, a2, a3⟩ := St.sub (e := e) hs hf ho hG hF
  exact wp_mono (h w0 M hgd H0 ρ2 a w a1 a3 hd hn) (PostX.le a2 (.refl _))

/-! ### Regions that draw their order -/
/-- How a drawn region is walked: a quiet operation taken first; all that may come up; the end. -/
inductive DP
  | done
  | no
  | take (i : Nat) (r : DP)
  | alt (i : Nat) (r o : DP)
def DP.alts : DP → List Nat
  | .alt i _ o => i :: o.alts
  | _ => []
def okD (ops : Array Oper) : Bool → DP → Nat → Array Bool → Bool
  | false, .done, _, l => (Region.ready .any ops l).isEmpty
  | false, .take i r, f + 1, l => Region.free .any ops l i && (Region.ready .any ops l).contains i && okD ops false r f (l.setIfInBounds i true)
  | false, .alt i r o, f + 1, l => eqL (Region.ready .any ops l) (i :: o.alts) && okD ops false r f (l.setIfInBounds i true) && okD ops true o (f + 1) l
  | true, .alt i r o, f + 1, l => okD ops false r f (l.setIfInBounds i true) && okD ops true o (f + 1) l
  | true, .no, _, _ => true
  | _, _, _, _ => false
/-- What stays of the blocks that are held. -/
def keepB (s s' : SB) : Prop :=
  match s with
  | .dead => True
  | .pre t xs => ∃ ys, s' = .arr t ys ∧ ys.take xs.length = xs
  | s => s' = s
def keepE : List SB → List SB → Prop
  | [], _ => True
  | s :: r, s' :: r' => keepB s s' ∧ keepE r r'
  | _ :: _, [] => False
/-- s' is at least what s tells. -/
def Tells (s : SB) (o : Option SB) : Prop := s = .dead ∨ o = some s ∨ ∃ t xs ys, s = .pre t xs ∧ o = some (.arr t ys) ∧ ys.take xs.length = xs
theorem keepB_ok {s s' : SB} (h : keepB s s') : Tells s (some s') := by
  unfold keepB at h
  split at h
  · exact .inl rfl
  · obtain ⟨ys, rfl, h2⟩ := h; exact .inr (.inr ⟨_, _, ys, rfl, rfl, h2⟩)
  · exact .inr (.inl (by rw [h]))
def padX : List SB → List SB → (List SB → Prop) → Prop
  | s :: r, _ :: r', K => padX r r' fun l => K (s :: l)
  | [], _ :: r, K => padX [] r fun l => K (.dead :: l)
  | _, [], K => K []
def keepX (Gm G' : List SB) (K : List SB → Prop) : Prop := keepE Gm G' ∧ padX Gm G' K
def nthX (ops : List Oper) (i : Nat) (K : Oper → Prop) : Prop :=
  match ops, i with
  | [], _ => False
  | o :: _, 0 => K o
  | _ :: r, i + 1 => nthX r i K
theorem nthX_ok {ops : List Oper} {i : Nat} {K : Oper → Prop} (h : nthX ops i K) : ∃ o, ops[i]? = some o ∧ K o := by
  induction ops generalizing i with
  | nil => exact h.elim
  | cons o r ih =>
    cases i with
    | zero => exact ⟨o, rfl, h⟩
    | succ i => obtain ⟨o', h1, h2⟩ := ih h; exact ⟨o', by simpa using h1, h2⟩
def quietX (P : Program) (T : Tab) (o : Oper) (F : Fr) (H : Hp) (G : List SB) (K : SV → Prop) : Prop :=
  match o.op with
  | .lookup t m k ok => evX m F fun sm => evX k F fun sk => lookX T t sm sk ok G K
  | .convert s d x => convQ P T o s d x F H G K
  | _ => opQ P T o F H G K
theorem quietX_ok {T : Tab} (hT : TabOk P T) {o : Oper} {F : Fr} {H : Hp} {G : List SB} {K : SV → Prop} (h : quietX P T o F H G K) : QO P o F H G K := by
  unfold quietX at h
  split at h
  · rename_i ho; exact lookX_ok hT ho h
  · rename_i ho; exact convQ_ok hT ho h
  · exact opQ_ok hT h
def drX (P : Program) (T : Tab) (n : Nat) (ps : List Nat) (ops : List Oper) (Hm : Hp) (Kp : List PanicEntry → Hp → List SB → Prop) (K : Fr → Hp → List SB → Prop) (d : DP) (F : Fr) (H : Hp) (G Gm : List SB) : Prop :=
  @DP.rec (fun _ => Fr → Hp → List SB → List SB → Prop)
    (fun F H G _ => K F H G)
    (fun _ _ _ _ => True)
    (fun i _ ih F H G Gm => nthX ops i fun o => wantX ops F o.guard fun b => match b with
      | true => quietX P T o F Hm Gm fun sv => partBool (guards ops i) sv fun sv => putX n ps o.dst F sv fun F' => ih F' H G Gm
      | false => putX n ps o.dst F (pv undef) fun F' => ih F' H G Gm)
    (fun i _ _ ih ih2 F H G Gm => (nthX ops i fun o => wantX ops F o.guard fun b => match b with
      | true => opX P T o F H G (fun sv H' G' => keepX Gm G' fun Gm' => partBool (guards ops i) sv fun sv => putX n ps o.dst F sv fun F' => ih F' H' G' Gm') Kp
      | false => putX n ps o.dst F (pv undef) fun F' => ih F' H G Gm) ∧ ih2 F H G Gm)
    d F H G Gm
theorem drX_take {P : Program} {T : Tab} {n : Nat} {ps : List Nat} {ops : List Oper} {Hm : Hp} {Kp : List PanicEntry → Hp → List SB → Prop} {K : Fr → Hp → List SB → Prop} {i : Nat} {r : DP} {F : Fr} {H : Hp} {G Gm : List SB} :
    drX P T n ps ops Hm Kp K (.take i r) F H G Gm = (nthX ops i fun o => wantX ops F o.guard fun b => match b with
      | true => quietX P T o F Hm Gm fun sv => partBool (guards ops i) sv fun sv => putX n ps o.dst F sv fun F' => drX P T n ps ops Hm Kp K r F' H G Gm
      | false => putX n ps o.dst F (pv undef) fun F' => drX P T n ps ops Hm Kp K r F' H G Gm) := rfl
theorem drX_alt {P : Program} {T : Tab} {n : Nat} {ps : List Nat} {ops : List Oper} {Hm : Hp} {Kp : List PanicEntry → Hp → List SB → Prop} {K : Fr → Hp → List SB → Prop} {i : Nat} {r o2 : DP} {F : Fr} {H : Hp} {G Gm : List SB} :
    drX P T n ps ops Hm Kp K (.alt i r o2) F H G Gm = ((nthX ops i fun o => wantX ops F o.guard fun b => match b with
      | true => opX P T o F H G (fun sv H' G' => keepX Gm G' fun Gm' => partBool (guards ops i) sv fun sv => putX n ps o.dst F sv fun F' => drX P T n ps ops Hm Kp K r F' H' G' Gm') Kp
      | false => putX n ps o.dst F (pv undef) fun F' => drX P T n ps ops Hm Kp K r F' H G Gm) ∧ drX P T n ps ops Hm Kp K o2 F H G Gm) := rfl
/-- What is held through the region. -/
structure Held (Hm : Hp) (ρ0 : List Value) (Gm0 : List SB) (w : World) : Prop where
  hin : Hm.In w
  ok : ∀ (k : Nat) (s : SB) (r : Value), Gm0[k]? = some s → ρ0[k]? = some r → s.Ok ρ0 w r
/-- Gm is Gm0 with nothing behind it. -/
def Pad (Gm0 Gm : List SB) : Prop := ∃ j, Gm = Gm0 ++ List.replicate j .dead
theorem Held.sw {Hm : Hp} {ρ0 ρ : List Value} {Gm0 Gm : List SB} {w : World} (h : Held Hm ρ0 Gm0 w) (hl0 : ρ0.length = Gm0.length) (hp : Pre ρ0 ρ) (hpad : Pad Gm0 Gm) (hl : ρ.length = Gm.length) : Sw ρ Hm Gm w := by
  refine ⟨h.hin, hl, fun k s r h1 h2 => ?_⟩
  obtain ⟨j, rfl⟩ := hpad
  rcases Nat.lt_or_ge k Gm0.length with hk | hk
  · rw [List.getElem?_append_left hk] at h1
    have h3 : ρ0[k]? = some ρ0[k] := List.getElem?_eq_getElem (by omega)
    have := hp k _ h3
    rw [h2] at this; injection this with this
    exact (h.ok k s r h1 (by rw [h3, this])).mono hp
  · rw [List.getElem?_append_right hk] at h1
    have := (List.getElem?_replicate.symm.trans h1)
    split at this
    · injection this with this; subst this; trivial
    · cases this
theorem keepE_ok : ∀ {Gm G' : List SB}, keepE Gm G' → Gm.length ≤ G'.length ∧ ∀ (k : Nat) (s : SB), Gm[k]? = some s → Tells s G'[k]?
  | [], _, _ => ⟨Nat.zero_le _, fun k s hk => by simp at hk⟩
  | s :: r, s' :: r', h => by
    obtain ⟨h1, h2⟩ := keepE_ok h.2
    refine ⟨by simpa using h1, fun k x hk => ?_⟩
    cases k with
    | zero =>
      simp at hk; subst hk
      exact keepB_ok h.1
    | succ k => simpa using h2 k x (by simpa using hk)
  | s :: _, [], h => h.elim
theorem padX_ok : ∀ {Gm G' : List SB} {K : List SB → Prop}, Gm.length ≤ G'.length → padX Gm G' K → ∃ Gm', K Gm' ∧ Pad Gm Gm' ∧ Gm'.length = G'.length
  | [], [], K, _, h => ⟨[], h, ⟨0, rfl⟩, rfl⟩
  | [], _ :: r, K, _, h => by
    obtain ⟨l, h1, ⟨j, h2⟩, h3⟩ := padX_ok (Gm := []) (G' := r) (Nat.zero_le _) h
    exact ⟨_, h1, ⟨j + 1, by rw [h2]; rfl⟩, by simp [h3]⟩
  | s :: r, s' :: r', K, hl, h => by
    obtain ⟨l, h1, ⟨j, h2⟩, h3⟩ := padX_ok (Gm := r) (G' := r') (by simpa using hl) h
    exact ⟨_, h1, ⟨j, by rw [h2]; rfl⟩, by simp [h3]⟩
  | s :: r, [], _, hl, _ => by simp at hl
theorem keepX_ok {Gm G' : List SB} {K : List SB → Prop} (h : keepX Gm G' K) : ∃ Gm', K Gm' ∧ Pad Gm Gm' ∧ Gm'.length = G'.length ∧ ∀ (k : Nat) (s : SB), Gm[k]? = some s → Tells s G'[k]? := by
  obtain ⟨h1, h2⟩ := h
  obtain ⟨h3, h4⟩ := keepE_ok h1
  obtain ⟨l, h5, h6, h7⟩ := padX_ok h3 h2
  exact ⟨l, h5, h6, h7, h4⟩
theorem capsBack {ρ0 ρ : List Value} (hp : Pre ρ0 ρ) : ∀ {caps : List (Nat × Nat)} {ys zs : List Value}, All2 (fun (p : Nat × Nat) z => ∃ r, ρ0[p.1]? = some r ∧ ptrAt r p.2 = some z) caps ys → All2 (fun (p : Nat × Nat) z => ∃ r, ρ[p.1]? = some r ∧ ptrAt r p.2 = some z) caps zs →
    All2 (fun (p : Nat × Nat) z => ∃ r, ρ0[p.1]? = some r ∧ ptrAt r p.2 = some z) caps zs
  | [], _, _, _, h => by cases h; exact .nil
  | _ :: _, _, _, h1, h2 => by
    cases h1 with | cons h5 h1 =>
      cases h2 with | cons h6 h7 =>
        obtain ⟨r, e1, e2⟩ := h5
        obtain ⟨r', e3, e4⟩ := h6
        rw [hp _ r e1] at e3; injection e3 with e3; subst e3
        exact .cons ⟨r, e1, e4⟩ (capsBack hp h1 h7)
theorem SC.Is.back {ρ0 ρ : List Value} (hp : Pre ρ0 ρ) {c : SC} {y z : Value} (h : c.Is ρ0 y) (h' : c.Is ρ z) : c.Is ρ0 z := by
  cases c with
  | val x => exact h'
  | ptr k off =>
    obtain ⟨r, h1, h2⟩ := h
    obtain ⟨r', h3, h4⟩ := h'
    rw [hp k r h1] at h3; injection h3 with h3; subst h3
    exact ⟨r, h1, h4⟩
  | self k => have h1 := hp k y h; have h2 : ρ[k]? = some z := h'; rw [h1] at h2; injection h2 with h2; subst h2; exact h
  | fn f n caps =>
    obtain ⟨ys, _, h2⟩ := h
    obtain ⟨zs, rfl, h4⟩ := h'
    refine ⟨zs, rfl, capsBack hp h2 h4⟩
  | pp A off => exact h'
  | any => trivial
theorem all2_back {ρ0 ρ : List Value} (hp : Pre ρ0 ρ) {cs : List SC} {ys zs : List Value} (h : All2 (SC.Is ρ0) cs ys) (h' : All2 (SC.Is ρ) cs zs) : All2 (SC.Is ρ0) cs zs := by
  induction h generalizing zs with
  | nil => cases h'; exact .nil
  | cons h1 _ ih => cases h' with | cons h2 h3 => exact .cons (h1.back hp h2) (ih h3)
theorem drX_ok {T : Tab} (hT : TabOk P T) {ops : Array Oper} (hsel : Region.noSelect ops = true) {Hm : Hp} {ρ0 : List Value} {Gm0 : List SB} (hl0 : ρ0.length = Gm0.length) {w0 : World} {M : Nat → Prop} (hgd : Gd w0 M) {H0 H1 : Hp} (hm1 : Hm.Le H1) {ρ00 : List Value} {K : KT} :
    ∀ (d : DP) (b : Bool) (fuel : Nat) (listed : Array Bool), okD ops b d fuel listed = true → ∀ (F : Fr) (H : Hp) (G Gm : List SB), drX P T n D.ps ops.toList Hm (fun ch H' G' => K (.panic ch) [] H' G') (fun F' H' G' => K .normal F' H' G') d F H G Gm →
    ∀ (ρ : List Value) (a : Act) (w : World), St w0 M H0 ρ H G w → Pre ρ0 ρ → PreE e ρ00 ρ → H1.Le H → FOk ρ F a.tmps → D.On a → a.tmps.size = n → Held Hm ρ0 Gm0 w → Pad Gm0 Gm → Gm.length = G.length → (∀ (k : Nat) (s : SB), Gm[k]? = some s → Tells s G[k]?) →
      match b with
      | false => wpAnyH P .any ops (PostX n e D w0 M H0 ρ00 H1 K) (Held Hm ρ0 Gm0) fuel listed a w
      | true => ∀ f, fuel = f + 1 → ∀ i ∈ d.alts, wpOp P ops (PostX n e D w0 M H0 ρ00 H1 K) i (fun a' w' => Held Hm ρ0 Gm0 w' ∧ wpAnyH P .any ops (PostX n e D w0 M H0 ρ00 H1 K) (Held Hm ρ0 Gm0) f (listed.setIfInBounds i true) a' w') a w := by
  have hQ : ∀ (dst : Option Tmp) (_ : ∀ d, dst = some d → d ∉ D.ps) (v : Value) c a w, PostX n e D w0 M H0 ρ00 H1 K (.panic c) (a.put dst v) w → PostX n e D w0 M H0 ρ00 H1 K (.panic c) a w := by
    intro dst hps v c a w h
    obtain ⟨h1, h2⟩ := h
    exact ⟨h1.unput hps, h2⟩
  intro d
  induction d with
  | done =>
    intro b fuel listed hok F H G Gm hd ρ a w hs hp hpe hle hf hde hsz hS hpad hlen hmk
    cases b with
    | true => cases fuel <;> cases hok
    | false =>
      have h1 : Region.ready .any ops listed = [] := by
        cases fuel <;> exact List.isEmpty_iff.1 hok
      exact wpAnyH_done h1 ⟨hde, hsz, F, ρ, H, G, hs, hpe, hf, hle, hd⟩ fuel
  | no =>
    intro b fuel listed hok F H G Gm hd ρ a w hs hp hpe hle hf hde hsz hS hpad hlen hmk
    cases b with
    | true => intro f _ i hi; simp [DP.alts] at hi
    | false => cases fuel <;> cases hok
  | take i r ih =>
    intro b fuel listed hok F H G Gm hd ρ a w hs hp hpe hle hf hde hsz hS hpad hlen hmk
    cases fuel with
    | zero => cases b <;> cases hok
    | succ f =>
      cases b with
      | true => cases hok
      | false =>
        simp only [okD, Bool.and_eq_true] at hok
        obtain ⟨⟨hfree, hready⟩, hok⟩ := hok
        rw [drX_take] at hd
        obtain ⟨o, ho, hd⟩ := nthX_ok hd
        obtain ⟨b, hd, hw⟩ := wantX_ok (ops := ops) hd
        have ho' : ops[i]? = some o := by simpa using ho
        have hsw : ∀ w, Held Hm ρ0 Gm0 w → Sw ρ Hm Gm w := fun w h => h.sw hl0 hp hpad (by rw [hs.len, hlen])
        cases b with
        | true =>
          obtain ⟨sv, hd, hq⟩ := quietX_ok hT hd
          obtain ⟨sv', hd, h6⟩ := partBool_ok hd
          obtain ⟨F', hd, h70, h7⟩ := putX_ok hd
          obtain ⟨v, h8, h9⟩ := hq ρ a w hf (hsw w hS)
          refine wpAnyH_take (v := v) ho' hsel hfree hready (hQ _ h70 _) (.inl ⟨by rw [hw ρ a hf], fun w' h => h9 w' (hsw w' h)⟩) hS ?_
          exact ih false f _ hok F' H G Gm hd ρ _ w hs hp hpe hle (h7 ρ a v hsz hf (h6 ρ v h8)) (hde.put h70 _) (by rw [put_size]; exact hsz) hS hpad hlen hmk
        | false =>
          obtain ⟨F', hd, h70, h7⟩ := putX_ok hd
          refine wpAnyH_take (v := undef) ho' hsel hfree hready (hQ _ h70 _) (.inr ⟨by rw [hw ρ a hf], rfl⟩) hS ?_
          exact ih false f _ hok F' H G Gm hd ρ _ w hs hp hpe hle (h7 ρ a undef hsz hf rfl) (hde.put h70 _) (by rw [put_size]; exact hsz) hS hpad hlen hmk
  | alt i r o2 ihr iho =>
    intro b fuel listed hok F H G Gm hd ρ a w hs hp hpe hle hf hde hsz hS hpad hlen hmk
    cases fuel with
    | zero => cases b <;> cases hok
    | succ f =>
      have one : okD ops false r f (listed.setIfInBounds i true) = true → wpOp P ops (PostX n e D w0 M H0 ρ00 H1 K) i (fun a' w' => Held Hm ρ0 Gm0 w' ∧ wpAnyH P .any ops (PostX n e D w0 M H0 ρ00 H1 K) (Held Hm ρ0 Gm0) f (listed.setIfInBounds i true) a' w') a w := by
        intro hokr
        rw [drX_alt] at hd
        obtain ⟨o, ho, hd⟩ := nthX_ok hd.1
        obtain ⟨b, hd, hw⟩ := wantX_ok (ops := ops) hd
        have ho' : ops[i]? = some o := by simpa using ho
        unfold wpOp
        simp only [ho', hw ρ a hf]
        cases b with
        | true =>
          simp only [if_true]
          left
          refine upon_of_out (opX_ok hT hd w0 M hgd H0 ρ a w hs hf) ?_ ?_
          · rintro v w' ⟨sv, ρ', H', G', h1, h2, h3, h4, h5⟩
            obtain ⟨Gm', h5, hk1, hk2, hk3⟩ := keepX_ok h5
            obtain ⟨sv', h5, h6⟩ := partBool_ok h5
            obtain ⟨F', h5, h70, h7⟩ := putX_ok h5
            have hf' := h7 ρ' a v hsz (hf.mono h2) (h6 ρ' v h3)
            have hpad' : Pad Gm0 Gm' := by
              obtain ⟨j, hj⟩ := hpad
              obtain ⟨j', hj'⟩ := hk1
              exact ⟨j + j', by rw [hj', hj, List.append_assoc, List.replicate_append_replicate]⟩
            have hmk' : ∀ (k : Nat) (s : SB), Gm'[k]? = some s → Tells s G'[k]? := by
              intro k s hk
              obtain ⟨j', hj'⟩ := hk1
              rw [hj'] at hk
              rcases Nat.lt_or_ge k Gm.length with hlt | hge
              · rw [List.getElem?_append_left hlt] at hk; exact hk3 k s hk
              · rw [List.getElem?_append_right hge] at hk
                have := (List.getElem?_replicate.symm.trans hk)
                split at this
                · injection this with this; exact .inl this.symm
                · cases this
            have hS' : Held Hm ρ0 Gm0 w' := by
              refine ⟨fun b o v hb => h1.hin b o v (h4 _ _ _ (hle _ _ _ (hm1 _ _ _ hb))), fun k s r h8 h9 => ?_⟩
              obtain ⟨j, hj⟩ := hpad'
              have hk0 : k < Gm0.length := (List.getElem?_eq_some_iff.1 h8).1
              have h10 : Gm'[k]? = some s := by rw [hj, List.getElem?_append_left hk0]; exact h8
              have hp0 : Pre ρ0 ρ' := hp.trans h2
              have h12 := hp0 k r h9
              rcases hmk' k s h10 with rfl | h11 | ⟨t, xs, ys, rfl, h11, htk⟩
              · trivial
              · have h13 := h1.ok k s r h11 h12
                -- told with ρ'; it is so with ρ0
                cases s with
                | box t cs =>
                  obtain ⟨g, ys, hr, hh, hcs⟩ := h13
                  obtain ⟨g', ys', hr', hh', hcs'⟩ := hS.ok k _ r h8 h9
                  exact ⟨g, ys, hr, hh, all2_back hp0 hcs' hcs⟩
                | _ => exact h13
              · obtain ⟨g, hr, hh⟩ := h1.ok k _ r h11 h12
                exact ⟨g, _, hr, hh, htk⟩
            exact ⟨hS', ihr false f _ hokr F' H' G' Gm' h5 ρ' (a.put o.dst v) w' h1 (hp.trans h2) (hpe.trans h2.toE) (hle.trans h4) hf' (hde.put h70 _) (by rw [put_size]; exact hsz) hS' hpad' hk2 hmk'⟩
          · rintro ch w' ⟨ρ', H', G', h1, h2, h4, h5⟩
            exact ⟨hde, ρ', H', G', h1, hpe.trans h2.toE, hle.trans h4, h5⟩
        | false =>
          simp only [Bool.false_eq_true, if_false]
          obtain ⟨F', hd, h70, h7⟩ := putX_ok hd
          exact ⟨hS, ihr false f _ hokr F' H G Gm hd ρ _ w hs hp hpe hle (h7 ρ a undef hsz hf rfl) (hde.put h70 _) (by rw [put_size]; exact hsz) hS hpad hlen hmk⟩
      cases b with
      | false =>
        simp only [okD, Bool.and_eq_true] at hok
        obtain ⟨⟨h1, h2⟩, h3⟩ := hok
        have h1 := eqL_eq h1
        refine wpAnyH_all h1 (by simp) fun j hj => ?_
        rcases List.mem_cons.1 hj with rfl | hj
        · exact one h2
        · exact iho true (f + 1) listed h3 F H G Gm hd.2 ρ a w hs hp hpe hle hf hde hsz hS hpad hlen hmk f rfl j hj
      | true =>
        simp only [okD, Bool.and_eq_true] at hok
        obtain ⟨h2, h3⟩ := hok
        intro f' hf' j hj
        injection hf' with hf'; subst hf'
        rcases List.mem_cons.1 hj with rfl | hj
        · exact one h2
        · exact iho true (f + 1) listed h3 F H G Gm hd.2 ρ a w hs hp hpe hle hf hde hsz hS hpad hlen hmk f rfl j hj
/-- The blocks that the region turns are not held. -/
def maskX : List Nat → List SB → List SB
  | [], G => G
  | k :: r, G => maskX r (G.set k .dead)
theorem maskX_ok : ∀ {ks : List Nat} {G : List SB}, (maskX ks G).length = G.length ∧ ∀ (k : Nat) (s : SB), (maskX ks G)[k]? = some s → s = .dead ∨ G[k]? = some s
  | [], G => ⟨rfl, fun k s h => .inr h⟩
  | k :: r, G => by
    obtain ⟨h1, h2⟩ := maskX_ok (ks := r) (G := G.set k .dead)
    refine ⟨by simp [maskX, h1], fun j s h => ?_⟩
    rcases h2 j s h with h | h
    · exact .inl h
    · by_cases hkj : k = j
      · subst hkj
        rcases Nat.lt_or_ge k G.length with hlt | hge
        · rw [List.getElem?_set_self hlt] at h; injection h with h; exact .inl h.symm
        · rw [List.getElem?_eq_none (by simpa using hge)] at h; cases h
      · rw [List.getElem?_set_ne hkj] at h; exact .inr h
def dpOk (ops : Array Oper) (d : DP) : Bool := Region.noSelect ops && okD ops false d ops.size (Array.replicate ops.size false)
theorem W.drawH {T : Tab} (hT : TabOk P T) (hm : P.follows .mixedOrders = true) {id : Nat} {ops : Array Oper} {K : KT} {F : Fr} {H : Hp} {G : List SB} (d : DP) (hd : dpOk ops d = true) (Gm : List SB) (hl : Gm.length = G.length) (hk : ∀ (k : Nat) (s : SB), Gm[k]? = some s → Tells s G[k]?)
    (h : drX P T n D.ps ops.toList H (fun ch H' G' => K (.panic ch) [] H' G') (fun F' H' G' => K .normal F' H' G') d F H G Gm) : W P n e D (.region id ops true) K F H G := by
  intro w0 M hgd H0 ρ a w hs hf hde hsz
  simp only [dpOk, Bool.and_eq_true] at hd
  have hsd := hs.drew (w.drawn + 1)
  have hHeld : Held H ρ Gm { w with drawn := w.drawn + 1 } := ⟨hsd.hin, fun k s r h1 h2 => by
    rcases hk k s h1 with rfl | h3 | ⟨t, xs, ys, rfl, h3, htk⟩
    · trivial
    · exact hsd.ok k s r h3 h2
    · obtain ⟨g, e1, e2⟩ := hsd.ok k _ r h3 h2
      exact ⟨g, _, e1, e2, htk⟩⟩
  exact wp_region_held (S := Held H ρ Gm) hm (drX_ok hT hd.1 (by rw [hl]; exact hs.len) hgd (Hp.Le.refl H) d false ops.size _ hd.2 F H G Gm h ρ a _ hsd (.refl _) (.refl _ _) (.refl _) hf hde hsz hHeld ⟨0, by simp⟩ hl hk)
/-- **A region that draws its order**, walked by a plan. -/
theorem W.draw {T : Tab} (hT : TabOk P T) (hm : P.follows .mixedOrders = true) {id : Nat} {ops : Array Oper} {K : KT} {F : Fr} {H : Hp} {G : List SB} (d : DP) (hd : dpOk ops d = true) (mask : List Nat)
    (h : drX P T n D.ps ops.toList H (fun ch H' G' => K (.panic ch) [] H' G') (fun F' H' G' => K .normal F' H' G') d F H G (maskX mask G)) : W P n e D (.region id ops true) K F H G :=
  W.drawH hT hm d hd (maskX mask G) (maskX_ok (ks := mask) (G := G)).1 (fun k s hk => ((maskX_ok (ks := mask) (G := G)).2 k s hk).imp (fun h => h) .inl) h
/-- The same; what is held is told (for a block that is filled on: its first cells, '.pre'). -/
theorem WS.drawH {T : Tab} (hT : TabOk P T) (hm : P.follows .mixedOrders = true) {id : Nat} {ops : Array Oper} {K : KT} {F : Fr} {H : Hp} {G : List SB} (d : DP) (hd : dpOk ops d = true) (Gm : List SB) (hk : keepE Gm G) (hl : Gm.length = G.length)
    (h : drX P T n D.ps ops.toList H (fun ch H' G' => K (.panic ch) [] H' G') (fun F' H' G' => K .normal F' H' G') d F H G Gm) : WS P n e D (.region id ops true) K F H G := ⟨W.drawH hT hm d hd Gm hl (keepE_ok hk).2 h⟩
theorem WS.draw {T : Tab} (hT : TabOk P T) (hm : P.follows .mixedOrders = true) {id : Nat} {ops : Array Oper} {K : KT} {F : Fr} {H : Hp} {G : List SB} (d : DP) (hd : dpOk ops d = true) (mask : List Nat)
    (h : drX P T n D.ps ops.toList H (fun ch H' G' => K (.panic ch) [] H' G') (fun F' H' G' => K .normal F' H' G') d F H G (maskX mask G)) : WS P n e D (.region id ops true) K F H G := ⟨W.draw hT hm d hd mask h⟩
end
end Go.Kx
