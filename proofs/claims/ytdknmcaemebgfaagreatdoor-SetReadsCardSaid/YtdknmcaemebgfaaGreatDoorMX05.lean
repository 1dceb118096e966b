/- The walk, on: loops, and regions that draw their order. Generic in the program; no condition of its own. -/
import Derived.Test.YtdknmcaemebgfaaGreatDoorMX04
import Derived.LoopN
import Derived.ScopeJumps
import Derived.ProofKit
import Derived.Below
import Derived.SizedLaws
import Derived.OpenShut
import Derived.ShutString
import Derived.ChangeOld
import Derived.Carry
import Derived.JoinedCond
import Derived.Deep.CondSized
import Derived.KernelRfl
import Derived.Deep.Slices
import Derived.Handed
import Derived.Stop.Joined
import Derived.LaidLaws
namespace Go.Kx
open Go.RowKit

section
variable {P : Program} {n e : Nat} {D : Pin}
def subG (σ : List Nat) (G : List SB) : List Nat → List SB → Prop
 | _, [] => True
 | [], _ :: _ => False
 | k :: ks, s :: r => getG G k (fun s' => subB σ s s') ∧ subG σ G ks r
where subB (σ : List Nat) (s s' : SB) : Prop :=
 match s with
 | .dead => True
 | .arr t xs => s' = .arr t xs ∨ s' = .box t (xs.map .val)
 | s => s' = s.ren σ
def subF (σ : List Nat) (F : Fr) : Fr → Prop
 | [] => True
 | (i, sv) :: r => getX F i (fun sv' => sv' = sv.ren σ) ∧ subF σ F r
def nodupB : List Nat → Bool
 | [] => true
 | k :: r => !(r.any (Nat.beq k)) && nodupB r
def eqL : List Nat → List Nat → Bool
 | [], [] => true
 | a :: r, b :: s => Nat.beq a b && eqL r s
 | _, _ => false
def subOk (e : Nat) (σ : List Nat) (F' : Fr) (G' : List SB) : Bool :=
 Nat.ble e σ.length && eqL (σ.take e) (List.range e) && Nat.beq σ.length G'.length && nodupB σ && G'.all (SB.wf σ.length) && F'.all (fun p => p.2.wf σ.length)
theorem eqL_eq : ∀ {l m : List Nat}, eqL l m = true → l = m
 | [], [], _ => rfl
 | a :: r, b :: s, h => by
  simp only [eqL, Bool.and_eq_true] at h
  rw [Nat.eq_of_beq_eq_true h.1, eqL_eq h.2]
 | [], _ :: _, h => by cases h
 | _ :: _, [], h => by cases h
theorem nodupB_ok : ∀ {l : List Nat}, nodupB l = true → l.Nodup
 | [], _ => List.nodup_nil
 | k :: r, h => by
  simp only [nodupB, Bool.and_eq_true, Bool.not_eq_true'] at h
  refine List.nodup_cons.2 ⟨fun hm => ?_, nodupB_ok h.2⟩
  have := List.any_eq_false.1 h.1 k hm
  simp at this
theorem subG_ok {σ : List Nat} {G : List SB} : ∀ {ks : List Nat} {G' : List SB}, subG σ G ks G' → ∀ (i : Nat) (s : SB), G'[i]? = some s → ∃ k s', ks[i]? = some k ∧ G[k]? = some s' ∧ (s = .dead ∨ s' = s.ren σ ∨ ∃ t xs, s = .arr t xs ∧ s' = .box t (xs.map .val))
 | _, [], _, i, s, h => by simp at h
 | [], _ :: _, h, _, _, _ => h.elim
 | k :: ks, s0 :: r, h, i, s, hi => by
  obtain ⟨h1, h2⟩ := h
  cases i with
  | zero =>
   simp at hi; subst hi
   obtain ⟨s', h3, h4⟩ := getG_ok h1
   refine ⟨k, s', rfl, h3, ?_⟩
   unfold subG.subB at h4
   split at h4
   ·exact .inl rfl
   ·rcases h4 with h4 | h4
    ·exact .inr (.inl h4)
    ·exact .inr (.inr ⟨_, _, rfl, h4⟩)
   ·exact .inr (.inl h4)
  | succ i =>
   obtain ⟨k', s', h3, h4⟩ := subG_ok h2 i s (by simpa using hi)
   exact ⟨k', s', by simpa using h3, h4⟩
theorem subF_ok {σ : List Nat} {F : Fr} : ∀ {F' : Fr}, subF σ F F' → ∀ i sv, (i, sv) ∈ F' → (i, sv.ren σ) ∈ F
 | [], _, i, sv, h => by simp at h
 | (j, sv0) :: r, h, i, sv, hm => by
  obtain ⟨h1, h2⟩ := h
  rcases List.mem_cons.1 hm with hm | hm
  ·injection hm with ha hb; subst ha hb
   obtain ⟨sv', h3, h4⟩ := getX_ok h1
   rw [← h4]; exact h3
  ·exact subF_ok h2 i sv hm
theorem all2_vals {ρ : List Value} : ∀ {xs ys : List Value}, All2 (SC.Is ρ) (xs.map .val) ys → ys = xs
 | [], ys, h => by cases h; rfl
 | x :: xs, ys, h => by
  cases h with | cons h1 h2 =>
   have e1 : _ = x := h1
   rw [e1, all2_vals h2]
theorem St.sub {w0 : World} {M : Nat → Prop} {H0 : Hp} {ρ : List Value} {H : Hp} {G : List SB} {w : World} (h : St w0 M H0 ρ H G w) {F F' : Fr} {G' : List SB} {σ : List Nat} {tmps : Array Value} (hf : FOk ρ F tmps)
  (ho : subOk e σ F' G' = true) (hG : subG σ G σ G') (hF : subF σ F F') : ∃ ρ', St w0 M H0 ρ' H G' w ∧ PreE e ρ ρ' ∧ FOk ρ' F' tmps := by
 simp only [subOk, Bool.and_eq_true] at ho
 obtain ⟨⟨⟨⟨⟨he, hr⟩, hl⟩, hn⟩, hwG⟩, hwF⟩ := ho
 have hr := eqL_eq hr
 have hl := Nat.eq_of_beq_eq_true hl
 have hn := nodupB_ok hn
 have he : e ≤ σ.length := by simpa using he
 let ρ' : List Value := σ.map fun k => ρ.getD k (.tuple #[])
 have hσ : ∀ (i k : Nat), σ[i]? = some k → k < ρ.length := fun i k hi => by
  have hi' : i < G'.length := by rw [← hl]; exact (List.getElem?_eq_some_iff.1 hi).1
  obtain ⟨k', s', h1, h2, _⟩ := subG_ok hG i G'[i] (List.getElem?_eq_getElem hi')
  rw [hi] at h1; injection h1 with h1; subst h1
  rw [h.len]; exact (List.getElem?_eq_some_iff.1 h2).1
 have hρ' : ∀ (k k' : Nat), σ[k]? = some k' → ρ'[k]? = ρ[k']? := fun k k' e1 => by
  have hlt := hσ k k' e1
  simp [ρ', e1, List.getD_eq_getElem?_getD, List.getElem?_eq_getElem hlt]
 have hblk : ∀ i g, blkAt ρ' G' i = some g → ∃ k, σ[i]? = some k ∧ blkAt ρ G k = some g := fun i g hg => by
  obtain ⟨s, r, h1, h2, h3⟩ := blkAt_some hg
  obtain ⟨k, s', h4, h5, h6⟩ := subG_ok hG i s h1
  refine ⟨k, h4, ?_⟩
  rcases h6 with rfl | rfl | ⟨t, xs, rfl, rfl⟩
  ·simp [SB.blk] at h3
  ·rw [hρ' i k h4] at h2
   rw [blkAt_eq h5 h2, blk_ren]; exact h3
  ·rw [hρ' i k h4] at h2
   rw [blkAt_eq h5 h2]; exact h3
 refine ⟨ρ', ⟨h.os, h.tape, h.output, h.size, h.old, h.hle, h.hin, h.hnew, by simp [ρ', hl], ?_, ?_, ?_⟩, ?_, ?_⟩
 ·intro i s r h1 h2
  obtain ⟨k, s', h4, h5, h6⟩ := subG_ok hG i s h1
  rcases h6 with rfl | rfl | ⟨t, xs, rfl, rfl⟩
  ·trivial
  rotate_left
  ·rw [hρ' i k h4] at h2
   obtain ⟨g, ys, e1, e2, e3⟩ := h.ok k _ r h5 h2
   have e4 : ys = xs := by
    exact all2_vals e3
   exact ⟨g, e1, by rw [← e4]; exact e2⟩
  ·rw [hρ' i k h4] at h2
   exact ren_bwdB hρ' (List.all_eq_true.1 hwG _ (List.mem_of_getElem? h1)) (h.ok k _ r h5 h2)
 ·intro i g hg
  obtain ⟨k, _, h2⟩ := hblk i g hg
  exact h.own k g h2
 ·intro i j g hg hg'
  obtain ⟨k, h1, h2⟩ := hblk i g hg
  obtain ⟨k', h1', h2'⟩ := hblk j g hg'
  have := h.inj k k' g h2 h2'
  subst this
  exact (List.getElem?_inj (List.getElem?_eq_some_iff.1 h1).1 hn).1 (h1.trans h1'.symm)
 ·intro k r hk e1
  have h1 : σ[k]? = some k := by
   have : (σ.take e)[k]? = (List.range e)[k]? := by rw [hr]
   rw [List.getElem?_take_of_lt hk, List.getElem?_range hk] at this
   exact this
  rw [hρ' k k h1]; exact e1
 ·intro i sv hm
  obtain ⟨v, h1, h2⟩ := hf i _ (subF_ok hF i sv hm)
  exact ⟨v, h1, ren_bwdV hρ' (List.all_eq_true.1 hwF _ hm) h2⟩

structure codeL (P : Program) (n e : Nat) (D : Pin) (c : Code) (K : KT) (F : Fr) (H : Hp) (G : List SB) : Prop where of ::
 to : W P n e D c K F H G
theorem codeL.go {T : Tab} (hT : TabOk P T) {c : Code} {K : KT} {F : Fr} {H : Hp} {G : List SB} (h : codeX P T n e D c K F H G) : codeL P n e D c K F H G := ⟨codeX_ok hT c h⟩
def Again (e : Nat) (I : Nat → Fr → Hp → List SB → Prop) (m : Nat) (F : Fr) (H : Hp) (G : List SB) : Prop :=
 ∃ m', m' < m ∧ ∃ F' G' σ, I m' F' H G' ∧ subOk e σ F' G' = true ∧ subG σ G σ G' ∧ subF σ F F'
def loopK (e : Nat) (I : Nat → Fr → Hp → List SB → Prop) (m : Nat) (K : KT) : KT
 | .normal, F, H, G => Again e I m F H G
 | x, F, H, G => K x F H G
theorem W.loop {c : Code} {K : KT} {F : Fr} {H : Hp} {G : List SB} (I : Nat → Fr → Hp → List SB → Prop) (m : Nat) (h0 : I m F H G)
  (hr : ∀ m F' H' G', H.Le H' → I m F' H' G' → W P n e D c (loopK e I m K) F' H' G') : W P n e D (.loop c) K F H G := by
 intro w0 M hgd H0 ρ a w hs hf hd hn
 have key : ∀ m, ∀ (ρ1 : List Value) (F1 : Fr) (H1 : Hp) (G1 : List SB) (a : Act) (w : World), I m F1 H1 G1 → H.Le H1 → PreE e ρ ρ1 → St w0 M H0 ρ1 H1 G1 w → FOk ρ1 F1 a.tmps → D.On a → a.tmps.size = n →
   Code.rounds P c (PostX n e D w0 M H0 ρ H K) (m + 1) a w := by
  intro m
  induction m using Nat.strongRecOn with
  | _ m ih =>
   intro ρ1 F1 H1 G1 a w hI hle hp hs hf hd hn
   have mono : ∀ (j k : Nat) (a : Act) (w : World), j ≤ k → Code.rounds P c (PostX n e D w0 M H0 ρ H K) j a w → Code.rounds P c (PostX n e D w0 M H0 ρ H K) k a w := by
    intro j
    induction j with
    | zero => intro k a w _ h; exact h.elim
    | succ j ihj =>
     intro k a w hjk h
     obtain ⟨k, rfl⟩ : ∃ k', k = k' + 1 := ⟨k - 1, by omega⟩
     refine wp_mono (c := c) h fun x a w hx => ?_
     cases x with
     | normal => exact ihj k a w (by omega) hx
     | _ => exact hx
   refine wp_mono (c := c) (hr m F1 H1 G1 hle hI w0 M hgd H0 ρ1 a w hs hf hd hn) fun x a w hx => ?_
   cases x with
   | normal =>
    obtain ⟨h1, h0, F', ρ', H', G', h2, hq, h3, h4, m', hm, F2, G2, σ, h5, h6, h7, h8⟩ := hx
    obtain ⟨ρ2, h9, h10, h11⟩ := St.sub (e := e) h2 h3 h6 h7 h8
    exact mono (m' + 1) m a w hm (ih m' hm ρ2 F2 H' G2 a w h5 (hle.trans h4) ((hp.trans hq).trans h10) h9 h11 h1 h0)
   | panic ch => exact PostX.le hp hle _ _ _ hx
   | outgrown => exact hx.elim
   | ret => exact PostX.le (K := K) hp hle .ret _ _ hx
   | exit id => exact PostX.le (K := K) hp hle (.exit id) _ _ hx
   | goto l => exact PostX.le (K := K) hp hle (.goto l) _ _ hx
 exact wp_loop_rounds (m + 1) (key m ρ F H G a w h0 (.refl _) (.refl _ _) hs hf hd hn)

theorem WS.loop {c : Code} {K : KT} {F : Fr} {H : Hp} {G : List SB} (I : Nat → Fr → Hp → List SB → Prop) (m : Nat) (h0 : Again e I m F H G)
  (hr : ∀ m F' H' G', H.Le H' → I m F' H' G' → codeL P n e D c (loopK e I m K) F' H' G') : WS P n e D (.loop c) K F H G := by
 refine ⟨fun w0 M hgd H0 ρ a w hs hf hd hn => ?_⟩
 obtain ⟨m', _, F', G', σ, h1, h2, h3, h4⟩ := h0
 obtain ⟨ρ2, a1, a2, a3⟩ := St.sub (e := e) hs hf h2 h3 h4
 exact wp_mono (W.loop I m' h1 (fun m F' H' G' hle hI => (hr m F' H' G' hle hI).to) w0 M hgd H0 ρ2 a w a1 a3 hd hn) (PostX.le a2 (.refl _))

def scopeK (e l : Nat) (I : Nat → Fr → Hp → List SB → Prop) (m : Nat) (K : KT) : KT
 | .goto j, F, H, G => match Nat.beq j l with
  | true => Again e I m F H G
  | false => False
 | x, F, H, G => K x F H G
theorem least {p : Nat → Prop} (h : ∃ m, p m) : ∃ m, p m ∧ ∀ k, p k → m ≤ k := by
 obtain ⟨m, hm⟩ := h
 induction m using Nat.strongRecOn with
 | _ m ih =>
  by_cases hk : ∃ k, k < m ∧ p k
  ·obtain ⟨k, h1, h2⟩ := hk; exact ih k h1 h2
  ·exact ⟨m, hm, fun k hp => Nat.le_of_not_lt fun hlt => hk ⟨k, hlt, hp⟩⟩
theorem WS.scope {c rest : Code} {l : Nat} (hf : findLabel c l = some rest) {K : KT} {F : Fr} {H : Hp} {G : List SB} (I : Nat → Fr → Hp → List SB → Prop) (m : Nat)
  (h0 : codeL P n e D c (scopeK e l I m K) F H G)
  (hr : ∀ m F' H' G', H.Le H' → I m F' H' G' → codeL P n e D rest (scopeK e l I m K) F' H' G') : WS P n e D (.scope c) K F H G := by
 refine ⟨fun w0 M hgd H0 ρ a w hs hfr hd hn => ?_⟩
 let J' : Nat → Act → World → Prop := fun m a w => D.On a ∧ a.tmps.size = n ∧ ∃ F1 ρ1 H1 G1, St w0 M H0 ρ1 H1 G1 w ∧ PreE e ρ ρ1 ∧ FOk ρ1 F1 a.tmps ∧ H.Le H1 ∧ I m F1 H1 G1
 have again : ∀ (m : Nat) (ρ1 : List Value) (H1 : Hp) (x : Exit) (a : Act) (w : World), PreE e ρ ρ1 → H.Le H1 → PostX n e D w0 M H0 ρ1 H1 (scopeK e l I m K) x a w →
   Exit.jump l (fun a w => ∃ m', m' < m ∧ J' m' a w) (PostX n e D w0 M H0 ρ H K) x a w := by
  intro m ρ1 H1 x a w hp hle hx
  cases x with
  | goto j =>
   obtain ⟨h1, hsz, F', ρ', H', G', h2, hq, h3, h4, h5⟩ := hx
   simp only [scopeK] at h5
   by_cases hj : j = l
   ·subst hj
    rw [Nat.beq_refl] at h5
    obtain ⟨m', hm, F2, G2, σ, a1, a2, a3, a4⟩ := h5
    obtain ⟨ρ2, h9, h10, h11⟩ := St.sub (e := e) h2 h3 a2 a3 a4
    exact ⟨rfl, m', hm, h1, hsz, F2, ρ2, H', G2, h9, (hp.trans hq).trans h10, h11, hle.trans h4, a1⟩
   ·have hb : Nat.beq j l = false := by
     cases hb : Nat.beq j l with
     | true => exact absurd (Nat.eq_of_beq_eq_true hb) hj
     | false => rfl
    rw [hb] at h5
    exact h5.elim
  | normal => exact PostX.le (K := K) hp hle .normal _ _ hx
  | ret => exact PostX.le (K := K) hp hle .ret _ _ hx
  | exit id => exact PostX.le (K := K) hp hle (.exit id) _ _ hx
  | panic ch => exact PostX.le (n := n) (K := K) hp hle (.panic ch) _ _ hx
  | outgrown => exact hx.elim
 have jm : ∀ {J1 J2 : Act → World → Prop} {Q : Exit → Act → World → Prop} {x : Exit} {a : Act} {w : World}, (∀ a w, J1 a w → J2 a w) → Exit.jump l J1 Q x a w → Exit.jump l J2 Q x a w := by
  intro J1 J2 Q x a w h12 h
  cases x with
  | goto j => exact ⟨h.1, h12 _ _ h.2⟩
  | _ => exact h
 let μ : Act → World → Nat := fun a w => by
  classical
  exact if h : ∃ m, J' m a w then Classical.choose (least h) else 0
 have hμ : ∀ a w m, J' m a w → μ a w ≤ m ∧ J' (μ a w) a w := by
  intro a w m h
  have hex : ∃ m, J' m a w := ⟨m, h⟩
  classical
  have e1 : μ a w = Classical.choose (least hex) := by
   show (if h : ∃ m, J' m a w then Classical.choose (least h) else 0) = _
   rw [dif_pos hex]
  rw [e1]
  have := Classical.choose_spec (least hex)
  exact ⟨this.2 m h, this.1⟩
 refine wp_scope_jumps l (fun a w => ∃ m, J' m a w) μ hf ?_ ?_
 ·refine wp_mono (h0.to w0 M hgd H0 ρ a w hs hfr hd hn) fun x a w hx => ?_
  exact jm (fun a w ⟨m', _, h⟩ => ⟨m', h⟩) (again m ρ H x a w (.refl _ _) (.refl _) hx)
 ·rintro a w ⟨m1, hm1⟩
  obtain ⟨h1, h2⟩ := hμ a w m1 hm1
  obtain ⟨b1, b2, F1, ρ1, H1, G1, b3, b4, b5, b6, b7⟩ := h2
  refine wp_mono ((hr _ F1 H1 G1 b6 b7).to w0 M hgd H0 ρ1 a w b3 b5 b1 b2) fun x a' w' hx => ?_
  refine jm ?_ (again (μ a w) ρ1 H1 x a' w' b4 b6 hx)
  rintro a2 w2 ⟨m', hm', hj'⟩
  exact ⟨⟨m', hj'⟩, Nat.lt_of_le_of_lt (hμ a2 w2 m' hj').1 hm'⟩

theorem W.seqS {x y : Code} {K : KT} {F : Fr} {H : Hp} {G : List SB} (h : W P n e D x (thenK (WS P n e D y K) K) F H G) : W P n e D (.seq x y) K F H G :=
 W.seq (W.mono h fun xx F' H' G' _ he => by
  cases xx with
  | normal => exact WS.to he
  | _ => exact he)
theorem W.sub {c : Code} {K : KT} {F F' : Fr} {H : Hp} {G G' : List SB} (σ : List Nat) (h : W P n e D c K F' H G') (ho : subOk e σ F' G' = true) (hG : subG σ G σ G') (hF : subF σ F F') : W P n e D c K F H G := by
 intro w0 M hgd H0 ρ a w hs hf hd hn
 obtain ⟨ρ2, a1, a2, a3⟩ := St.sub (e := e) hs hf ho hG hF
 exact wp_mono (h w0 M hgd H0 ρ2 a w a1 a3 hd hn) (PostX.le a2 (.refl _))

inductive DP
 | done
 | no
 | take (i : Nat) (r : DP)
 | alt (i : Nat) (r o : DP)
def DP.alts : DP → List Nat
 | .alt i _ o => i :: o.alts
 | _ => []
def okD (ops : Array Oper) : Bool → DP → Nat → Array Bool → Bool
 | false, .done, _, l => (Region.ready .any ops l).isEmpty
 | false, .take i r, f + 1, l => Region.free .any ops l i && (Region.ready .any ops l).contains i && okD ops false r f (l.setIfInBounds i true)
 | false, .alt i r o, f + 1, l => eqL (Region.ready .any ops l) (i :: o.alts) && okD ops false r f (l.setIfInBounds i true) && okD ops true o (f + 1) l
 | true, .alt i r o, f + 1, l => okD ops false r f (l.setIfInBounds i true) && okD ops true o (f + 1) l
 | true, .no, _, _ => true
 | _, _, _, _ => false
def keepB (s s' : SB) : Prop :=
 match s with
 | .dead => True
 | .pre t xs => ∃ ys, s' = .arr t ys ∧ ys.take xs.length = xs
 | s => s' = s
def keepE : List SB → List SB → Prop
 | [], _ => True
 | s :: r, s' :: r' => keepB s s' ∧ keepE r r'
 | _ :: _, [] => False
def Tells (s : SB) (o : Option SB) : Prop := s = .dead ∨ o = some s ∨ ∃ t xs ys, s = .pre t xs ∧ o = some (.arr t ys) ∧ ys.take xs.length = xs
theorem keepB_ok {s s' : SB} (h : keepB s s') : Tells s (some s') := by
 unfold keepB at h
 split at h
 ·exact .inl rfl
 ·obtain ⟨ys, rfl, h2⟩ := h; exact .inr (.inr ⟨_, _, ys, rfl, rfl, h2⟩)
 ·exact .inr (.inl (by rw [h]))
def padX : List SB → List SB → (List SB → Prop) → Prop
 | s :: r, _ :: r', K => padX r r' fun l => K (s :: l)
 | [], _ :: r, K => padX [] r fun l => K (.dead :: l)
 | _, [], K => K []
def keepX (Gm G' : List SB) (K : List SB → Prop) : Prop := keepE Gm G' ∧ padX Gm G' K
def nthX (ops : List Oper) (i : Nat) (K : Oper → Prop) : Prop :=
 match ops, i with
 | [], _ => False
 | o :: _, 0 => K o
 | _ :: r, i + 1 => nthX r i K
theorem nthX_ok {ops : List Oper} {i : Nat} {K : Oper → Prop} (h : nthX ops i K) : ∃ o, ops[i]? = some o ∧ K o := by
 induction ops generalizing i with
 | nil => exact h.elim
 | cons o r ih =>
  cases i with
  | zero => exact ⟨o, rfl, h⟩
  | succ i => obtain ⟨o', h1, h2⟩ := ih h; exact ⟨o', by simpa using h1, h2⟩
def quietX (P : Program) (T : Tab) (o : Oper) (F : Fr) (H : Hp) (G : List SB) (K : SV → Prop) : Prop :=
 match o.op with
 | .lookup t m k ok => evX m F fun sm => evX k F fun sk => lookX T t sm sk ok G K
 | .convert s d x => convQ P T o s d x F H G K
 | _ => opQ P T o F H G K
theorem quietX_ok {T : Tab} (hT : TabOk P T) {o : Oper} {F : Fr} {H : Hp} {G : List SB} {K : SV → Prop} (h : quietX P T o F H G K) : QO P o F H G K := by
 unfold quietX at h
 split at h
 ·rename_i ho; exact lookX_ok hT ho h
 ·rename_i ho; exact convQ_ok hT ho h
 ·exact opQ_ok hT h
def drX (P : Program) (T : Tab) (n : Nat) (ps : List Nat) (ops : List Oper) (Hm : Hp) (Kp : List PanicEntry → Hp → List SB → Prop) (K : Fr → Hp → List SB → Prop) (d : DP) (F : Fr) (H : Hp) (G Gm : List SB) : Prop :=
 @DP.rec (fun _ => Fr → Hp → List SB → List SB → Prop)
  (fun F H G _ => K F H G)
  (fun _ _ _ _ => True)
  (fun i _ ih F H G Gm => nthX ops i fun o => wantX ops F o.guard fun b => match b with
   | true => quietX P T o F Hm Gm fun sv => partBool (guards ops i) sv fun sv => putX n ps o.dst F sv fun F' => ih F' H G Gm
   | false => putX n ps o.dst F (pv undef) fun F' => ih F' H G Gm)
  (fun i _ _ ih ih2 F H G Gm => (nthX ops i fun o => wantX ops F o.guard fun b => match b with
   | true => opX P T o F H G (fun sv H' G' => keepX Gm G' fun Gm' => partBool (guards ops i) sv fun sv => putX n ps o.dst F sv fun F' => ih F' H' G' Gm') Kp
   | false => putX n ps o.dst F (pv undef) fun F' => ih F' H G Gm) ∧ ih2 F H G Gm)
  d F H G Gm
theorem drX_take {P : Program} {T : Tab} {n : Nat} {ps : List Nat} {ops : List Oper} {Hm : Hp} {Kp : List PanicEntry → Hp → List SB → Prop} {K : Fr → Hp → List SB → Prop} {i : Nat} {r : DP} {F : Fr} {H : Hp} {G Gm : List SB} :
  drX P T n ps ops Hm Kp K (.take i r) F H G Gm = (nthX ops i fun o => wantX ops F o.guard fun b => match b with
   | true => quietX P T o F Hm Gm fun sv => partBool (guards ops i) sv fun sv => putX n ps o.dst F sv fun F' => drX P T n ps ops Hm Kp K r F' H G Gm
   | false => putX n ps o.dst F (pv undef) fun F' => drX P T n ps ops Hm Kp K r F' H G Gm) := rfl
theorem drX_alt {P : Program} {T : Tab} {n : Nat} {ps : List Nat} {ops : List Oper} {Hm : Hp} {Kp : List PanicEntry → Hp → List SB → Prop} {K : Fr → Hp → List SB → Prop} {i : Nat} {r o2 : DP} {F : Fr} {H : Hp} {G Gm : List SB} :
  drX P T n ps ops Hm Kp K (.alt i r o2) F H G Gm = ((nthX ops i fun o => wantX ops F o.guard fun b => match b with
   | true => opX P T o F H G (fun sv H' G' => keepX Gm G' fun Gm' => partBool (guards ops i) sv fun sv => putX n ps o.dst F sv fun F' => drX P T n ps ops Hm Kp K r F' H' G' Gm') Kp
   | false => putX n ps o.dst F (pv undef) fun F' => drX P T n ps ops Hm Kp K r F' H G Gm) ∧ drX P T n ps ops Hm Kp K o2 F H G Gm) := rfl
structure Held (Hm : Hp) (ρ0 : List Value) (Gm0 : List SB) (w : World) : Prop where
 hin : Hm.In w
 ok : ∀ (k : Nat) (s : SB) (r : Value), Gm0[k]? = some s → ρ0[k]? = some r → s.Ok ρ0 w r
def Pad (Gm0 Gm : List SB) : Prop := ∃ j, Gm = Gm0 ++ List.replicate j .dead
theorem Held.sw {Hm : Hp} {ρ0 ρ : List Value} {Gm0 Gm : List SB} {w : World} (h : Held Hm ρ0 Gm0 w) (hl0 : ρ0.length = Gm0.length) (hp : Pre ρ0 ρ) (hpad : Pad Gm0 Gm) (hl : ρ.length = Gm.length) : Sw ρ Hm Gm w := by
 refine ⟨h.hin, hl, fun k s r h1 h2 => ?_⟩
 obtain ⟨j, rfl⟩ := hpad
 rcases Nat.lt_or_ge k Gm0.length with hk | hk
 ·rw [List.getElem?_append_left hk] at h1
  have h3 : ρ0[k]? = some ρ0[k] := List.getElem?_eq_getElem (by omega)
  have := hp k _ h3
  rw [h2] at this; injection this with this
  exact (h.ok k s r h1 (by rw [h3, this])).mono hp
 ·rw [List.getElem?_append_right hk] at h1
  have := (List.getElem?_replicate.symm.trans h1)
  split at this
  ·injection this with this; subst this; trivial
  ·cases this
theorem keepE_ok : ∀ {Gm G' : List SB}, keepE Gm G' → Gm.length ≤ G'.length ∧ ∀ (k : Nat) (s : SB), Gm[k]? = some s → Tells s G'[k]?
 | [], _, _ => ⟨Nat.zero_le _, fun k s hk => by simp at hk⟩
 | s :: r, s' :: r', h => by
  obtain ⟨h1, h2⟩ := keepE_ok h.2
  refine ⟨by simpa using h1, fun k x hk => ?_⟩
  cases k with
  | zero =>
   simp at hk; subst hk
   exact keepB_ok h.1
  | succ k => simpa using h2 k x (by simpa using hk)
 | s :: _, [], h => h.elim
theorem padX_ok : ∀ {Gm G' : List SB} {K : List SB → Prop}, Gm.length ≤ G'.length → padX Gm G' K → ∃ Gm', K Gm' ∧ Pad Gm Gm' ∧ Gm'.length = G'.length
 | [], [], K, _, h => ⟨[], h, ⟨0, rfl⟩, rfl⟩
 | [], _ :: r, K, _, h => by
  obtain ⟨l, h1, ⟨j, h2⟩, h3⟩ := padX_ok (Gm := []) (G' := r) (Nat.zero_le _) h
  exact ⟨_, h1, ⟨j + 1, by rw [h2]; rfl⟩, by simp [h3]⟩
 | s :: r, s' :: r', K, hl, h => by
  obtain ⟨l, h1, ⟨j, h2⟩, h3⟩ := padX_ok (Gm := r) (G' := r') (by simpa using hl) h
  exact ⟨_, h1, ⟨j, by rw [h2]; rfl⟩, by simp [h3]⟩
 | s :: r, [], _, hl, _ => by simp at hl
theorem keepX_ok {Gm G' : List SB} {K : List SB → Prop} (h : keepX Gm G' K) : ∃ Gm', K Gm' ∧ Pad Gm Gm' ∧ Gm'.length = G'.length ∧ ∀ (k : Nat) (s : SB), Gm[k]? = some s → Tells s G'[k]? := by
 obtain ⟨h1, h2⟩ := h
 obtain ⟨h3, h4⟩ := keepE_ok h1
 obtain ⟨l, h5, h6, h7⟩ := padX_ok h3 h2
 exact ⟨l, h5, h6, h7, h4⟩
theorem capsBack {ρ0 ρ : List Value} (hp : Pre ρ0 ρ) : ∀ {caps : List (Nat × Nat)} {ys zs : List Value}, All2 (fun (p : Nat × Nat) z => ∃ r, ρ0[p.1]? = some r ∧ ptrAt r p.2 = some z) caps ys → All2 (fun (p : Nat × Nat) z => ∃ r, ρ[p.1]? = some r ∧ ptrAt r p.2 = some z) caps zs →
  All2 (fun (p : Nat × Nat) z => ∃ r, ρ0[p.1]? = some r ∧ ptrAt r p.2 = some z) caps zs
 | [], _, _, _, h => by cases h; exact .nil
 | _ :: _, _, _, h1, h2 => by
  cases h1 with | cons h5 h1 =>
   cases h2 with | cons h6 h7 =>
    obtain ⟨r, e1, e2⟩ := h5
    obtain ⟨r', e3, e4⟩ := h6
    rw [hp _ r e1] at e3; injection e3 with e3; subst e3
    exact .cons ⟨r, e1, e4⟩ (capsBack hp h1 h7)
theorem SC.Is.back {ρ0 ρ : List Value} (hp : Pre ρ0 ρ) {c : SC} {y z : Value} (h : c.Is ρ0 y) (h' : c.Is ρ z) : c.Is ρ0 z := by
 cases c with
 | val x => exact h'
 | ptr k off =>
  obtain ⟨r, h1, h2⟩ := h
  obtain ⟨r', h3, h4⟩ := h'
  rw [hp k r h1] at h3; injection h3 with h3; subst h3
  exact ⟨r, h1, h4⟩
 | self k => have h1 := hp k y h; have h2 : ρ[k]? = some z := h'; rw [h1] at h2; injection h2 with h2; subst h2; exact h
 | fn f n caps =>
  obtain ⟨ys, _, h2⟩ := h
  obtain ⟨zs, rfl, h4⟩ := h'
  refine ⟨zs, rfl, capsBack hp h2 h4⟩
 | pp A off => exact h'
 | any => trivial
theorem all2_back {ρ0 ρ : List Value} (hp : Pre ρ0 ρ) {cs : List SC} {ys zs : List Value} (h : All2 (SC.Is ρ0) cs ys) (h' : All2 (SC.Is ρ) cs zs) : All2 (SC.Is ρ0) cs zs := by
 induction h generalizing zs with
 | nil => cases h'; exact .nil
 | cons h1 _ ih => cases h' with | cons h2 h3 => exact .cons (h1.back hp h2) (ih h3)
theorem drX_ok {T : Tab} (hT : TabOk P T) {ops : Array Oper} (hsel : Region.noSelect ops = true) {Hm : Hp} {ρ0 : List Value} {Gm0 : List SB} (hl0 : ρ0.length = Gm0.length) {w0 : World} {M : Nat → Prop} (hgd : Gd w0 M) {H0 H1 : Hp} (hm1 : Hm.Le H1) {ρ00 : List Value} {K : KT} :
  ∀ (d : DP) (b : Bool) (fuel : Nat) (listed : Array Bool), okD ops b d fuel listed = true → ∀ (F : Fr) (H : Hp) (G Gm : List SB), drX P T n D.ps ops.toList Hm (fun ch H' G' => K (.panic ch) [] H' G') (fun F' H' G' => K .normal F' H' G') d F H G Gm →
  ∀ (ρ : List Value) (a : Act) (w : World), St w0 M H0 ρ H G w → Pre ρ0 ρ → PreE e ρ00 ρ → H1.Le H → FOk ρ F a.tmps → D.On a → a.tmps.size = n → Held Hm ρ0 Gm0 w → Pad Gm0 Gm → Gm.length = G.length → (∀ (k : Nat) (s : SB), Gm[k]? = some s → Tells s G[k]?) →
   match b with
   | false => wpAnyH P .any ops (PostX n e D w0 M H0 ρ00 H1 K) (Held Hm ρ0 Gm0) fuel listed a w
   | true => ∀ f, fuel = f + 1 → ∀ i ∈ d.alts, wpOp P ops (PostX n e D w0 M H0 ρ00 H1 K) i (fun a' w' => Held Hm ρ0 Gm0 w' ∧ wpAnyH P .any ops (PostX n e D w0 M H0 ρ00 H1 K) (Held Hm ρ0 Gm0) f (listed.setIfInBounds i true) a' w') a w := by
 have hQ : ∀ (dst : Option Tmp) (_ : ∀ d, dst = some d → d ∉ D.ps) (v : Value) c a w, PostX n e D w0 M H0 ρ00 H1 K (.panic c) (a.put dst v) w → PostX n e D w0 M H0 ρ00 H1 K (.panic c) a w := by
  intro dst hps v c a w h
  obtain ⟨h1, h2⟩ := h
  exact ⟨h1.unput hps, h2⟩
 intro d
 induction d with
 | done =>
  intro b fuel listed hok F H G Gm hd ρ a w hs hp hpe hle hf hde hsz hS hpad hlen hmk
  cases b with
  | true => cases fuel <;> cases hok
  | false =>
   have h1 : Region.ready .any ops listed = [] := by
    cases fuel <;> exact List.isEmpty_iff.1 hok
   exact wpAnyH_done h1 ⟨hde, hsz, F, ρ, H, G, hs, hpe, hf, hle, hd⟩ fuel
 | no =>
  intro b fuel listed hok F H G Gm hd ρ a w hs hp hpe hle hf hde hsz hS hpad hlen hmk
  cases b with
  | true => intro f _ i hi; simp [DP.alts] at hi
  | false => cases fuel <;> cases hok
 | take i r ih =>
  intro b fuel listed hok F H G Gm hd ρ a w hs hp hpe hle hf hde hsz hS hpad hlen hmk
  cases fuel with
  | zero => cases b <;> cases hok
  | succ f =>
   cases b with
   | true => cases hok
   | false =>
    simp only [okD, Bool.and_eq_true] at hok
    obtain ⟨⟨hfree, hready⟩, hok⟩ := hok
    rw [drX_take] at hd
    obtain ⟨o, ho, hd⟩ := nthX_ok hd
    obtain ⟨b, hd, hw⟩ := wantX_ok (ops := ops) hd
    have ho' : ops[i]? = some o := by simpa using ho
    have hsw : ∀ w, Held Hm ρ0 Gm0 w → Sw ρ Hm Gm w := fun w h => h.sw hl0 hp hpad (by rw [hs.len, hlen])
    cases b with
    | true =>
     obtain ⟨sv, hd, hq⟩ := quietX_ok hT hd
     obtain ⟨sv', hd, h6⟩ := partBool_ok hd
     obtain ⟨F', hd, h70, h7⟩ := putX_ok hd
     obtain ⟨v, h8, h9⟩ := hq ρ a w hf (hsw w hS)
     refine wpAnyH_take (v := v) ho' hsel hfree hready (hQ _ h70 _) (.inl ⟨by rw [hw ρ a hf], fun w' h => h9 w' (hsw w' h)⟩) hS ?_
     exact ih false f _ hok F' H G Gm hd ρ _ w hs hp hpe hle (h7 ρ a v hsz hf (h6 ρ v h8)) (hde.put h70 _) (by rw [put_size]; exact hsz) hS hpad hlen hmk
    | false =>
     obtain ⟨F', hd, h70, h7⟩ := putX_ok hd
     refine wpAnyH_take (v := undef) ho' hsel hfree hready (hQ _ h70 _) (.inr ⟨by rw [hw ρ a hf], rfl⟩) hS ?_
     exact ih false f _ hok F' H G Gm hd ρ _ w hs hp hpe hle (h7 ρ a undef hsz hf rfl) (hde.put h70 _) (by rw [put_size]; exact hsz) hS hpad hlen hmk
 | alt i r o2 ihr iho =>
  intro b fuel listed hok F H G Gm hd ρ a w hs hp hpe hle hf hde hsz hS hpad hlen hmk
  cases fuel with
  | zero => cases b <;> cases hok
  | succ f =>
   have one : okD ops false r f (listed.setIfInBounds i true) = true → wpOp P ops (PostX n e D w0 M H0 ρ00 H1 K) i (fun a' w' => Held Hm ρ0 Gm0 w' ∧ wpAnyH P .any ops (PostX n e D w0 M H0 ρ00 H1 K) (Held Hm ρ0 Gm0) f (listed.setIfInBounds i true) a' w') a w := by
    intro hokr
    rw [drX_alt] at hd
    obtain ⟨o, ho, hd⟩ := nthX_ok hd.1
    obtain ⟨b, hd, hw⟩ := wantX_ok (ops := ops) hd
    have ho' : ops[i]? = some o := by simpa using ho
    unfold wpOp
    simp only [ho', hw ρ a hf]
    cases b with
    | true =>
     simp only [if_true]
     left
     refine upon_of_out (opX_ok hT hd w0 M hgd H0 ρ a w hs hf) ?_ ?_
     ·rintro v w' ⟨sv, ρ', H', G', h1, h2, h3, h4, h5⟩
      obtain ⟨Gm', h5, hk1, hk2, hk3⟩ := keepX_ok h5
      obtain ⟨sv', h5, h6⟩ := partBool_ok h5
      obtain ⟨F', h5, h70, h7⟩ := putX_ok h5
      have hf' := h7 ρ' a v hsz (hf.mono h2) (h6 ρ' v h3)
      have hpad' : Pad Gm0 Gm' := by
       obtain ⟨j, hj⟩ := hpad
       obtain ⟨j', hj'⟩ := hk1
       exact ⟨j + j', by rw [hj', hj, List.append_assoc, List.replicate_append_replicate]⟩
      have hmk' : ∀ (k : Nat) (s : SB), Gm'[k]? = some s → Tells s G'[k]? := by
       intro k s hk
       obtain ⟨j', hj'⟩ := hk1
       rw [hj'] at hk
       rcases Nat.lt_or_ge k Gm.length with hlt | hge
       ·rw [List.getElem?_append_left hlt] at hk; exact hk3 k s hk
       ·rw [List.getElem?_append_right hge] at hk
        have := (List.getElem?_replicate.symm.trans hk)
        split at this
        ·injection this with this; exact .inl this.symm
        ·cases this
      have hS' : Held Hm ρ0 Gm0 w' := by
       refine ⟨fun b o v hb => h1.hin b o v (h4 _ _ _ (hle _ _ _ (hm1 _ _ _ hb))), fun k s r h8 h9 => ?_⟩
       obtain ⟨j, hj⟩ := hpad'
       have hk0 : k < Gm0.length := (List.getElem?_eq_some_iff.1 h8).1
       have h10 : Gm'[k]? = some s := by rw [hj, List.getElem?_append_left hk0]; exact h8
       have hp0 : Pre ρ0 ρ' := hp.trans h2
       have h12 := hp0 k r h9
       rcases hmk' k s h10 with rfl | h11 | ⟨t, xs, ys, rfl, h11, htk⟩
       ·trivial
       ·have h13 := h1.ok k s r h11 h12
        -- told with ρ'; it is so with ρ0
        cases s with
        | box t cs =>
         obtain ⟨g, ys, hr, hh, hcs⟩ := h13
         obtain ⟨g', ys', hr', hh', hcs'⟩ := hS.ok k _ r h8 h9
         exact ⟨g, ys, hr, hh, all2_back hp0 hcs' hcs⟩
        | _ => exact h13
       ·obtain ⟨g, hr, hh⟩ := h1.ok k _ r h11 h12
        exact ⟨g, _, hr, hh, htk⟩
      exact ⟨hS', ihr false f _ hokr F' H' G' Gm' h5 ρ' (a.put o.dst v) w' h1 (hp.trans h2) (hpe.trans h2.toE) (hle.trans h4) hf' (hde.put h70 _) (by rw [put_size]; exact hsz) hS' hpad' hk2 hmk'⟩
     ·rintro ch w' ⟨ρ', H', G', h1, h2, h4, h5⟩
      exact ⟨hde, ρ', H', G', h1, hpe.trans h2.toE, hle.trans h4, h5⟩
    | false =>
     simp only [Bool.false_eq_true, if_false]
     obtain ⟨F', hd, h70, h7⟩ := putX_ok hd
     exact ⟨hS, ihr false f _ hokr F' H G Gm hd ρ _ w hs hp hpe hle (h7 ρ a undef hsz hf rfl) (hde.put h70 _) (by rw [put_size]; exact hsz) hS hpad hlen hmk⟩
   cases b with
   | false =>
    simp only [okD, Bool.and_eq_true] at hok
    obtain ⟨⟨h1, h2⟩, h3⟩ := hok
    have h1 := eqL_eq h1
    refine wpAnyH_all h1 (by simp) fun j hj => ?_
    rcases List.mem_cons.1 hj with rfl | hj
    ·exact one h2
    ·exact iho true (f + 1) listed h3 F H G Gm hd.2 ρ a w hs hp hpe hle hf hde hsz hS hpad hlen hmk f rfl j hj
   | true =>
    simp only [okD, Bool.and_eq_true] at hok
    obtain ⟨h2, h3⟩ := hok
    intro f' hf' j hj
    injection hf' with hf'; subst hf'
    rcases List.mem_cons.1 hj with rfl | hj
    ·exact one h2
    ·exact iho true (f + 1) listed h3 F H G Gm hd.2 ρ a w hs hp hpe hle hf hde hsz hS hpad hlen hmk f rfl j hj
def maskX : List Nat → List SB → List SB
 | [], G => G
 | k :: r, G => maskX r (G.set k .dead)
theorem maskX_ok : ∀ {ks : List Nat} {G : List SB}, (maskX ks G).length = G.length ∧ ∀ (k : Nat) (s : SB), (maskX ks G)[k]? = some s → s = .dead ∨ G[k]? = some s
 | [], G => ⟨rfl, fun k s h => .inr h⟩
 | k :: r, G => by
  obtain ⟨h1, h2⟩ := maskX_ok (ks := r) (G := G.set k .dead)
  refine ⟨by simp [maskX, h1], fun j s h => ?_⟩
  rcases h2 j s h with h | h
  ·exact .inl h
  ·by_cases hkj : k = j
   ·subst hkj
    rcases Nat.lt_or_ge k G.length with hlt | hge
    ·rw [List.getElem?_set_self hlt] at h; injection h with h; exact .inl h.symm
    ·rw [List.getElem?_eq_none (by simpa using hge)] at h; cases h
   ·rw [List.getElem?_set_ne hkj] at h; exact .inr h
def dpOk (ops : Array Oper) (d : DP) : Bool := Region.noSelect ops && okD ops false d ops.size (Array.replicate ops.size false)
theorem W.drawH {T : Tab} (hT : TabOk P T) (hm : P.follows .mixedOrders = true) {id : Nat} {ops : Array Oper} {K : KT} {F : Fr} {H : Hp} {G : List SB} (d : DP) (hd : dpOk ops d = true) (Gm : List SB) (hl : Gm.length = G.length) (hk : ∀ (k : Nat) (s : SB), Gm[k]? = some s → Tells s G[k]?)
  (h : drX P T n D.ps ops.toList H (fun ch H' G' => K (.panic ch) [] H' G') (fun F' H' G' => K .normal F' H' G') d F H G Gm) : W P n e D (.region id ops true) K F H G := by
 intro w0 M hgd H0 ρ a w hs hf hde hsz
 simp only [dpOk, Bool.and_eq_true] at hd
 have hsd := hs.drew (w.drawn + 1)
 have hHeld : Held H ρ Gm { w with drawn := w.drawn + 1 } := ⟨hsd.hin, fun k s r h1 h2 => by
  rcases hk k s h1 with rfl | h3 | ⟨t, xs, ys, rfl, h3, htk⟩
  ·trivial
  ·exact hsd.ok k s r h3 h2
  ·obtain ⟨g, e1, e2⟩ := hsd.ok k _ r h3 h2
   exact ⟨g, _, e1, e2, htk⟩⟩
 exact wp_region_held (S := Held H ρ Gm) hm (drX_ok hT hd.1 (by rw [hl]; exact hs.len) hgd (Hp.Le.refl H) d false ops.size _ hd.2 F H G Gm h ρ a _ hsd (.refl _) (.refl _ _) (.refl _) hf hde hsz hHeld ⟨0, by simp⟩ hl hk)
theorem W.draw {T : Tab} (hT : TabOk P T) (hm : P.follows .mixedOrders = true) {id : Nat} {ops : Array Oper} {K : KT} {F : Fr} {H : Hp} {G : List SB} (d : DP) (hd : dpOk ops d = true) (mask : List Nat)
  (h : drX P T n D.ps ops.toList H (fun ch H' G' => K (.panic ch) [] H' G') (fun F' H' G' => K .normal F' H' G') d F H G (maskX mask G)) : W P n e D (.region id ops true) K F H G :=
 W.drawH hT hm d hd (maskX mask G) (maskX_ok (ks := mask) (G := G)).1 (fun k s hk => ((maskX_ok (ks := mask) (G := G)).2 k s hk).imp (fun h => h) .inl) h
theorem WS.drawH {T : Tab} (hT : TabOk P T) (hm : P.follows .mixedOrders = true) {id : Nat} {ops : Array Oper} {K : KT} {F : Fr} {H : Hp} {G : List SB} (d : DP) (hd : dpOk ops d = true) (Gm : List SB) (hk : keepE Gm G) (hl : Gm.length = G.length)
  (h : drX P T n D.ps ops.toList H (fun ch H' G' => K (.panic ch) [] H' G') (fun F' H' G' => K .normal F' H' G') d F H G Gm) : WS P n e D (.region id ops true) K F H G := ⟨W.drawH hT hm d hd Gm hl (keepE_ok hk).2 h⟩
theorem WS.draw {T : Tab} (hT : TabOk P T) (hm : P.follows .mixedOrders = true) {id : Nat} {ops : Array Oper} {K : KT} {F : Fr} {H : Hp} {G : List SB} (d : DP) (hd : dpOk ops d = true) (mask : List Nat)
  (h : drX P T n D.ps ops.toList H (fun ch H' G' => K (.panic ch) [] H' G') (fun F' H' G' => K .normal F' H' G') d F H G (maskX mask G)) : WS P n e D (.region id ops true) K F H G := ⟨W.draw hT hm d hd mask h⟩
end
end Go.Kx
namespace Go.Kx
open Go.RowKit

def idX : List Nat → Nat → (Nat → Prop) → Prop
 | [], _, K => K 0
 | k :: _, 0, K => K k
 | _ :: r, i + 1, K => idX r i K
theorem idX_ok {σ : List Nat} {i : Nat} {K : Nat → Prop} (h : idX σ i K) : K (σ.getD i 0) := by
 induction σ generalizing i with
 | nil => exact h
 | cons k r ih =>
  cases i with
  | zero => exact h
  | succ i => have := ih h; simpa using this
def renCaps (σ : List Nat) : List (Nat × Nat) → (List (Nat × Nat) → Prop) → Prop
 | [], K => K []
 | (k, o) :: r, K => idX σ k fun k' => renCaps σ r fun l => K ((k', o) :: l)
theorem renCaps_ok {σ : List Nat} {l : List (Nat × Nat)} {K : List (Nat × Nat) → Prop} (h : renCaps σ l K) : K (l.map fun p => (σ.getD p.1 0, p.2)) := by
 induction l generalizing K with
 | nil => exact h
 | cons p r ih => exact ih (idX_ok h)
def renC (σ : List Nat) : SC → (SC → Prop) → Prop
 | .ptr k off, K => idX σ k fun k' => K (.ptr k' off)
 | .self k, K => idX σ k fun k' => K (.self k')
 | .fn f n caps, K => renCaps σ caps fun l => K (.fn f n l)
 | .val x, K => K (.val x)
 | .pp A off, K => K (.pp A off)
 | .any, K => K .any
theorem renC_ok {σ : List Nat} {c : SC} {K : SC → Prop} (h : renC σ c K) : K (c.ren σ) := by
 cases c with
 | ptr k off => exact idX_ok (K := fun k' => K (.ptr k' off)) h
 | self k => exact idX_ok (K := fun k' => K (.self k')) h
 | fn f n caps => exact renCaps_ok (K := fun l => K (.fn f n l)) h
 | val x => exact h
 | pp A off => exact h
 | any => exact h
def renL (σ : List Nat) : List SC → (List SC → Prop) → Prop
 | [], K => K []
 | c :: r, K => renC σ c fun c' => renL σ r fun l => K (c' :: l)
theorem renL_ok {σ : List Nat} {l : List SC} {K : List SC → Prop} (h : renL σ l K) : K (l.map (SC.ren σ)) := by
 induction l generalizing K with
 | nil => exact h
 | cons p r ih => exact ih (renC_ok h)
def renG (σ : List Nat) : SG → (SG → Prop) → Prop
 | .ce c, K => renC σ c fun c' => K (.ce c')
 | .ag l, K => renL σ l fun l' => K (.ag l')
theorem renG_ok {σ : List Nat} {c : SG} {K : SG → Prop} (h : renG σ c K) : K (c.ren σ) := by
 cases c with
 | ce x => exact renC_ok h
 | ag l => exact renL_ok h
def renGL (σ : List Nat) : List SG → (List SG → Prop) → Prop
 | [], K => K []
 | c :: r, K => renG σ c fun c' => renGL σ r fun l => K (c' :: l)
theorem renGL_ok {σ : List Nat} {l : List SG} {K : List SG → Prop} (h : renGL σ l K) : K (l.map (SG.ren σ)) := by
 induction l generalizing K with
 | nil => exact h
 | cons p r ih => exact ih (renG_ok h)
def renV (σ : List Nat) : SV → (SV → Prop) → Prop
 | .si c, K => renG σ c fun c' => K (.si c')
 | .tu l, K => renGL σ l fun l' => K (.tu l')
theorem renV_ok {σ : List Nat} {c : SV} {K : SV → Prop} (h : renV σ c K) : K (c.ren σ) := by
 cases c with
 | si x => exact renG_ok h
 | tu l => exact renGL_ok h
def renB (σ : List Nat) : SB → (SB → Prop) → Prop
 | .box t cs, K => renL σ cs fun l => K (.box t l)
 | s, K => K s
theorem renB_ok {σ : List Nat} {s : SB} {K : SB → Prop} (h : renB σ s K) : K (s.ren σ) := by
 cases s with
 | box t cs => exact renL_ok h
 | _ => exact h
def renE (σ : List Nat) : SE → (SE → Prop) → Prop
 | .ret v, K => renV σ v fun v' => K (.ret v')
 | .pan ch, K => K (.pan ch)
theorem renE_ok {σ : List Nat} {s : SE} {K : SE → Prop} (h : renE σ s K) : K (s.ren σ) := by
 cases s with
 | ret v => exact renV_ok h
 | pan ch => exact h
def extX : List Nat → List SB → Nat → (List Nat → Prop) → Prop
 | k :: r, _ :: L, n, K => extX r L n fun l => K (k :: l)
 | [], _ :: L, n, K => extX [] L (n + 1) fun l => K (n :: l)
 | σ, [], _, K => K σ
theorem extX_nil {L : List SB} {n : Nat} {K : List Nat → Prop} (h : extX [] L n K) : K ((List.range L.length).map (n + ·)) := by
 induction L generalizing n K with
 | nil => exact h
 | cons s L ih =>
  have := ih h
  rw [List.length_cons, List.range_succ_eq_map, List.map_cons, List.map_map]
  have e : (List.range L.length).map ((fun x => n + x) ∘ Nat.succ) = (List.range L.length).map (n + 1 + ·) := by
   apply List.map_congr_left; intro x _; simp; omega
  rw [e]; exact this
theorem extX_ok {σ : List Nat} {L : List SB} {n : Nat} {K : List Nat → Prop} (h : extX σ L n K) : K (σ ++ newIds n σ.length L.length) := by
 induction σ generalizing L K with
 | nil => simpa [newIds] using extX_nil h
 | cons k r ih =>
  cases L with
  | nil => simpa [newIds, extX] using h
  | cons s L =>
   have := ih h
   simpa [newIds, Nat.add_sub_add_right] using this
def mergeX (σ' : List Nat) : List SB → List Nat → List SB → (List SB → Prop) → Prop
 | G, _, [], K => K G
 | G, k :: σ, s :: L, K => renB σ' s fun s' => setG G k s' fun G' => mergeX σ' G' σ L K
 | G, [], s :: L, K => renB σ' s fun s' => appG G s' fun G' _ => mergeX σ' G' [] L K
theorem mergeX_ok {σ' : List Nat} : ∀ {L : List SB} {σ : List Nat} {G : List SB} {K : List SB → Prop}, mergeX σ' G σ L K → K (mergeG G σ (L.map (SB.ren σ')))
 | [], σ, G, K, h => by cases σ <;> simpa [mergeX, mergeG] using h
 | s :: L, [], G, K, h => by
  have h1 := appG_ok (renB_ok h)
  have h2 := mergeX_ok (L := L) (σ := []) h1
  exact h2
 | s :: L, k :: σ, G, K, h => by
  have h1 := (setG_ok (renB_ok h)).2
  have h2 := mergeX_ok (L := L) (σ := σ) h1
  exact h2
def useK (σ : List Nat) (G : List SB) (e : SE) (G0' : List SB) (K : SE → List SB → Prop) : Prop :=
 appG G .dead fun _ n => extX σ G0' n fun σ' => renE σ' e fun e' => mergeX σ' G σ G0' fun G' => K e' G'
theorem useK_ok {σ : List Nat} {G : List SB} {e : SE} {G0' : List SB} {K : SE → List SB → Prop} (h : useK σ G e G0' K) :
  K (e.ren (σ ++ newIds G.length σ.length G0'.length)) (mergeG G σ (G0'.map (SB.ren (σ ++ newIds G.length σ.length G0'.length)))) :=
 mergeX_ok (renE_ok (extX_ok (appG_ok h)))
def useG (σ : List Nat) (G : List SB) : List Nat → List SB → Prop
 | [], [] => True
 | k :: ks, s :: r => getG G k (fun s' => s' = s.ren σ) ∧ useG σ G ks r
 | _, _ => False
theorem useG_ok {σ : List Nat} {G : List SB} : ∀ {ks : List Nat} {L : List SB}, useG σ G ks L → ks.length = L.length ∧ ∀ (i : Nat) (s : SB), L[i]? = some s → ∃ k, ks[i]? = some k ∧ G[k]? = some (s.ren σ)
 | [], [], _ => ⟨rfl, fun i s h => by simp at h⟩
 | [], _ :: _, h => h.elim
 | _ :: _, [], h => h.elim
 | k :: ks, s :: r, h => by
  obtain ⟨h1, h2⟩ := h
  obtain ⟨s', h3, h4⟩ := getG_ok h1
  obtain ⟨h5, h6⟩ := useG_ok h2
  refine ⟨by simp [h5], fun i x hi => ?_⟩
  cases i with
  | zero => simp at hi; subst hi; exact ⟨k, rfl, by rw [h3, h4]⟩
  | succ i => simpa using h6 i x (by simpa using hi)
def useOk (σ : List Nat) (svs0 : List SV) (G0 : List SB) : Bool := nodupB σ && G0.all (SB.wf σ.length) && svs0.all (SV.wf σ.length)
section
variable {P : Program}
theorem CallS.use {f : FuncId} {svs0 svs : List SV} {H : Hp} {G0 G : List SB} {K0 K : SE → Hp → List SB → Prop} (h : CallO P f svs0 H G0 K0) (σ : List Nat) (hb : useOk σ svs0 G0 = true) (hv : svs0.map (SV.ren σ) = svs) (hG : useG σ G σ G0)
  (hK : ∀ e H' G0', H.Le H' → K0 e H' G0' → useK σ G e G0' fun e' G' => K e' H' G') : CallS P f svs H G K := by
 subst hv
 simp only [useOk, Bool.and_eq_true] at hb
 obtain ⟨⟨h1, h2⟩, h3⟩ := hb
 obtain ⟨h4, h5⟩ := useG_ok hG
 refine ⟨h.frame σ h4 h5 (nodupB_ok h1) h2 h3 fun e H' G0' hle hk => ?_⟩
 have := useK_ok (hK e H' G0' hle hk)
 rw [← h4]; exact this
theorem CallO.sub {f : FuncId} {svs : List SV} {H : Hp} {G : List SB} {K0 K : SE → Hp → List SB → Prop} (h : CallO P f svs H G K0)
  (hK : ∀ e H' G', H.Le H' → K0 e H' G' → match e with
   | .ret v => ∃ v2 G2 σ, subOk G.length σ [(0, v2)] G2 = true ∧ subG σ G' σ G2 ∧ v = v2.ren σ ∧ K (.ret v2) H' G2
   | .pan ch => K (.pan ch) H' G') : CallO P f svs H G K := by
 intro w0 M hgd H0 ρ w vs hs hv
 refine (h w0 M hgd H0 ρ w vs hs hv).mono fun e w' he => ?_
 cases e with
 | returned v =>
  obtain ⟨sv, ρ', H', G', h1, h2, h3, h4, h5⟩ := he
  obtain ⟨v2, G2, σ, h6, h7, h8, h9⟩ := hK _ _ _ h4 h5
  obtain ⟨ρ2, a1, a2, a3⟩ := St.sub (e := G.length) (F := [(0, sv)]) (F' := [(0, v2)]) (tmps := #[v]) h1 (fun i s hm => by
   rcases List.mem_singleton.1 hm with hm
   injection hm with e1 e2; subst e1 e2
   exact ⟨v, rfl, h3⟩) h6 h7 ⟨by simpa [getX] using h8, trivial⟩
  obtain ⟨v', e1, e2⟩ := a3 0 v2 List.mem_cons_self
  simp at e1; subst e1
  refine ⟨v2, ρ2, H', G2, a1, fun k r hk => a2 k r (by rw [← hs.len]; exact (List.getElem?_eq_some_iff.1 hk).1) (h2 k r hk), e2, h4, h9⟩
 | panicked ch => obtain ⟨ρ', H', G', h1, h2, h4, h5⟩ := he; exact ⟨ρ', H', G', h1, h2, h4, hK _ _ _ h4 h5⟩
 | outgrown => exact he
end
theorem wrap64 {x : Int} (h : -9223372036854775808 ≤ x) (h' : x < 9223372036854775808) : IntKind.i64.wrap x = x := by
 simp only [IntKind.wrap, IntKind.bits, IntKind.signed]
 simp
 omega
end Go.Kx
namespace Go.Kx
open Go.RowKit

def Frozen (H : Hp) (x : Value) (n : Nat) (xs : List Value) : Prop :=
 (x = .slice none 0 0 ∧ n = 0 ∧ xs = []) ∨ ∃ g o cap, x = .slice (some ⟨g, o, none⟩) n cap ∧ n ≤ cap ∧ RdN H (some ⟨g, o, none⟩) 0 xs
theorem Frozen.slice {H : Hp} {x : Value} {n : Nat} {xs : List Value} (h : Frozen H x n xs) : ∃ A cap, x = .slice A n cap ∧ n ≤ cap ∧ (xs = [] ∨ RdN H A 0 xs) := by
 rcases h with ⟨rfl, rfl, rfl⟩ | ⟨g, o, cap, rfl, h1, h2⟩
 ·exact ⟨none, 0, rfl, Nat.le_refl _, .inl rfl⟩
 ·exact ⟨_, cap, rfl, h1, .inr h2⟩
def Hp.putAt (H : Hp) (g o : Nat) (ys : List Value) : Hp := fun b i => if b = g then (if o ≤ i then ys[i - o]? else none) else H b i
theorem Hp.putAt_le {H : Hp} {g o : Nat} {ys : List Value} (hg : H.Out g) : H.Le (H.putAt g o ys) := fun b i v e => by
 unfold Hp.putAt
 split
 ·rename_i hb; subst hb; rw [hg i] at e; cases e
 ·exact e
theorem Hp.putAt_rd {H : Hp} {g o : Nat} {ys : List Value} : RdN (H.putAt g o ys) (some ⟨g, o, none⟩) 0 ys := ⟨g, o, rfl, fun j x hx => by simp [Hp.putAt, hx]⟩
theorem Hp.putAt_inv {H : Hp} {g o : Nat} {ys : List Value} {b i : Nat} {v : Value} (e : H.putAt g o ys b i = some v) : H b i = some v ∨ (b = g ∧ o ≤ i ∧ ys[i - o]? = some v) := by
 unfold Hp.putAt at e
 split at e
 ·rename_i hb
  split at e
  ·rename_i ho; exact .inr ⟨hb, ho, e⟩
  ·cases e
 ·exact .inl e
theorem St.frz {w0 : World} {M : Nat → Prop} {H0 : Hp} {ρ : List Value} {H : Hp} {G : List SB} {w : World} (h : St w0 M H0 ρ H G w) {k : Nat} {e : TypeId} {sz n : Nat} {xs : List Value} (hk : G[k]? = some (.row e sz n xs)) (hz : n = 0 → xs = []) :
  ∃ x H', St w0 M H0 ρ H' (G.set k (.frz x)) w ∧ H.Le H' ∧ Frozen H' x n xs ∧ ρ[k]? = some x := by
 obtain ⟨r, hr, hok⟩ := h.at hk
 rcases hok.2 with ⟨rfl, hn⟩ | ⟨g, o, cap, cur, rfl, hg, hnc, _, hcs, htk⟩
 ·refine ⟨_, H, ?_, .refl _, .inl ⟨rfl, hn, hz hn⟩, hr⟩
  have hkl := (List.getElem?_eq_some_iff.1 hk).1
  have hb : ∀ j x, blkAt ρ (G.set k (.frz (.slice none 0 0))) j = some x → blkAt ρ G j = some x := fun j x hx => by
   obtain ⟨s1, r1, h1, h2, h3⟩ := blkAt_some hx
   by_cases hjk : k = j
   ·subst hjk
    rw [List.getElem?_set_self hkl] at h1
    injection h1 with h1; subst h1
    simp [SB.blk] at h3
   ·rw [List.getElem?_set_ne hjk] at h1
    rw [blkAt_eq h1 h2]; exact h3
  refine ⟨h.os, h.tape, h.output, h.size, h.old, h.hle, h.hin, h.hnew, by simp [h.len], ?_, fun j x hx => h.own j x (hb j x hx), fun i j x hi hj => h.inj i j x (hb i x hi) (hb j x hj)⟩
  intro j s1 r1 h1 h2
  by_cases hjk : k = j
  ·subst hjk
   rw [List.getElem?_set_self hkl] at h1
   injection h1 with h1; subst h1
   rw [hr] at h2; injection h2 with h2
   exact h2.symm
  ·rw [List.getElem?_set_ne hjk] at h1
   exact h.ok j s1 r1 h1 h2
 ·have hout : H.Out g := (h.own k g (by rw [blkAt_eq hk hr]; rfl)).2
  refine ⟨_, H.putAt g o xs, ?_, Hp.putAt_le hout, .inr ⟨g, o, cap, rfl, hnc, Hp.putAt_rd⟩, hr⟩
  refine h.give hk hr (g := g) rfl (fun b i v ev => ?_) (Hp.putAt_le hout) rfl rfl
  rcases Hp.putAt_inv ev with e1 | ⟨rfl, e0, e1⟩
  ·exact .inl e1
  ·refine .inr ⟨rfl, ?_⟩
   rw [← htk, List.getElem?_take] at e1
   split at e1
   ·simp only [World.cell?, hg]
    rw [List.getElem?_drop, show o + (i - o) = i by omega] at e1
    simpa using e1
   ·cases e1

def SC.at (k : Nat) (x : Value) : SC → SC
 | .self j => match Nat.beq j k with
  | true => .val x
  | false => .self j
 | .val y => .val y
 | .ptr j o => .ptr j o
 | .fn f n c => .fn f n c
 | .pp A o => .pp A o
 | .any => .any
def SG.at (k : Nat) (x : Value) : SG → SG
 | .ce c => .ce (c.at k x)
 | .ag l => .ag (l.map (SC.at k x))
def SV.at (k : Nat) (x : Value) : SV → SV
 | .si c => .si (c.at k x)
 | .tu l => .tu (l.map (SG.at k x))
def SB.at (k : Nat) (x : Value) : SB → SB
 | .box t cs => .box t (cs.map (SC.at k x))
 | s => s
section
variable {ρ : List Value} {k : Nat} {x : Value}
theorem SC.Is.at (hk : ρ[k]? = some x) {c : SC} {y : Value} (h : c.Is ρ y) : (c.at k x).Is ρ y := by
 cases c with
 | self j =>
  have h1 : ρ[j]? = some y := h
  have key : ∀ b : Bool, Nat.beq j k = b → SC.Is ρ (match b with
   | true => SC.val x
   | false => SC.self j) y := by
   intro b hb
   cases b with
   | true =>
    have := Nat.eq_of_beq_eq_true hb
    subst this
    rw [hk] at h1; injection h1 with h1
    exact h1.symm
   | false => exact h
  exact key _ rfl
 | _ => exact h
theorem SG.Is.at (hk : ρ[k]? = some x) {c : SG} {y : Value} (h : c.Is ρ y) : (c.at k x).Is ρ y := by
 cases c with
 | ce c => exact SC.Is.at hk h
 | ag l => obtain ⟨ys, h1, h2⟩ := h; exact ⟨ys, h1, All2.map_left (h2.mono fun _ _ => SC.Is.at hk)⟩
theorem SV.Is.at (hk : ρ[k]? = some x) {c : SV} {y : Value} (h : c.Is ρ y) : (c.at k x).Is ρ y := by
 cases c with
 | si c => exact SG.Is.at hk h
 | tu l => obtain ⟨ys, h1, h2⟩ := h; exact ⟨ys, h1, All2.map_left (h2.mono fun _ _ => SG.Is.at hk)⟩
theorem SB.at_blk (s : SB) (r : Value) : (s.at k x).blk r = s.blk r := by cases s <;> rfl
theorem SB.Ok.at (hk : ρ[k]? = some x) {s : SB} {w : World} {r : Value} (h : s.Ok ρ w r) : (s.at k x).Ok ρ w r := by
 cases s with
 | box t cs => obtain ⟨g, ys, h1, h2, h3⟩ := h; exact ⟨g, ys, h1, h2, All2.map_left (h3.mono fun _ _ => SC.Is.at hk)⟩
 | _ => exact h
end
theorem St.atAll {w0 : World} {M : Nat → Prop} {H0 : Hp} {ρ : List Value} {H : Hp} {G : List SB} {w : World} (h : St w0 M H0 ρ H G w) {k : Nat} {x : Value} (hk : ρ[k]? = some x) : St w0 M H0 ρ H (G.map (SB.at k x)) w := by
 have hb : ∀ j, blkAt ρ (G.map (SB.at k x)) j = blkAt ρ G j := fun j => by
  unfold blkAt
  rw [List.getElem?_map]
  cases G[j]? with
  | none => rfl
  | some s =>
   simp only [Option.map_some]
   cases ρ[j]? with
   | none => rfl
   | some r => exact SB.at_blk s r
 refine ⟨h.os, h.tape, h.output, h.size, h.old, h.hle, h.hin, h.hnew, by simp [h.len], ?_, fun j g hg => h.own j g (by rw [← hb]; exact hg), fun i j g hi hj => h.inj i j g (by rw [← hb]; exact hi) (by rw [← hb]; exact hj)⟩
 intro j s r h1 h2
 rw [List.getElem?_map] at h1
 obtain ⟨s', e1, rfl⟩ := Option.map_eq_some_iff.1 h1
 exact (h.ok j s' r e1 h2).at hk

section
variable {P : Program}
theorem CallO.frz {f : FuncId} {svs : List SV} {H : Hp} {G : List SB} {K0 K : SE → Hp → List SB → Prop} (h : CallO P f svs H G K0)
  (hK : ∀ e H' G', H.Le H' → K0 e H' G' → match e with
   | .ret v => ∃ k t sz n xs, G'[k]? = some (.row t sz n xs) ∧ (n = 0 → xs = []) ∧ ∀ x H2, H'.Le H2 → Frozen H2 x n xs → K (.ret (v.at k x)) H2 ((G'.set k .dead).map (SB.at k x))
   | .pan ch => K (.pan ch) H' G') : CallO P f svs H G K := by
 intro w0 M hgd H0 ρ w vs hs hv
 refine (h w0 M hgd H0 ρ w vs hs hv).mono fun e w' he => ?_
 cases e with
 | returned v =>
  obtain ⟨sv, ρ', H', G', h1, h2, h3, h4, h5⟩ := he
  obtain ⟨k, t, sz, n, xs, h6, h7, h8⟩ := hK _ _ _ h4 h5
  obtain ⟨x, H2, a1, a2, a3, a4⟩ := h1.frz h6 h7
  have a5 := a1.kill k
  rw [List.set_set] at a5
  exact ⟨_, ρ', H2, _, a5.atAll a4, h2, h3.at a4, h4.trans a2, h8 x H2 a2 a3⟩
 | panicked ch => obtain ⟨ρ', H', G', h1, h2, h4, h5⟩ := he; exact ⟨ρ', H', G', h1, h2, h4, hK _ _ _ h4 h5⟩
 | outgrown => exact he
def frameAt (k : Nat) (x : Value) (F : Fr) : Fr := F.map fun p => (p.1, p.2.at k x)
theorem codeL.frz {n e : Nat} {D : Pin} {c : Code} {K : KT} {F : Fr} {H : Hp} {G : List SB} (k : Nat) {t : TypeId} {sz m : Nat} {xs : List Value} (hk : G[k]? = some (.row t sz m xs)) (hz : m = 0 → xs = [])
  (h : ∀ x H2, H.Le H2 → Frozen H2 x m xs → codeL P n e D c K (frameAt k x F) H2 ((G.set k .dead).map (SB.at k x))) : codeL P n e D c K F H G := by
 refine ⟨fun w0 M hgd H0 ρ a w hs hf hd hn => ?_⟩
 obtain ⟨x, H2, a1, a2, a3, a4⟩ := hs.frz hk hz
 have a5 := a1.kill k
 rw [List.set_set] at a5
 have hf' : FOk ρ (frameAt k x F) a.tmps := by
  intro i sv hi
  obtain ⟨⟨j, s⟩, hm, he⟩ := List.mem_map.1 hi
  injection he with e1 e2; subst e1 e2
  obtain ⟨v, h1, h2⟩ := hf j s hm
  exact ⟨v, h1, h2.at a4⟩
 exact wp_mono ((h x H2 a2 a3).to w0 M hgd H0 ρ a w (a5.atAll a4) hf' hd hn) (PostX.le (.refl _ _) a2)
theorem WS.nilRow {n e : Nat} {D : Pin} {c : Code} {K : KT} {F : Fr} {H : Hp} {G : List SB} (i : Nat) (t : TypeId) (sz : Nat) (hi : getX F i fun sv => sv = .si (.ce (.val (.slice none 0 0)))) (h : appG G (.row t sz 0 []) fun G' j => WS P n e D c K ((i, .si (.ce (.self j))) :: F) H G') : WS P n e D c K F H G := by
 have h := appG_ok h
 obtain ⟨sv, h1, h2⟩ := getX_ok hi
 subst h2
 refine ⟨fun w0 M hgd H0 ρ a w hs hf hd hn => ?_⟩
 have hs' := hs.adopt (s := .row t sz 0 []) (r := .slice none 0 0) (OwnRow.nil w t sz) (fun g hg => by simp [SB.blk, Value.ownBlock] at hg)
 obtain ⟨v, h3, h4⟩ := hf i _ h1
 have h4' : v = .slice none 0 0 := h4
 subst h4'
 refine wp_mono (h.to w0 M hgd H0 _ a w hs' ?_ hd hn) (PostX.le (Pre.append _ _).toE (.refl _))
 intro j sv hm
 rcases List.mem_cons.1 hm with hm | hm
 ·injection hm with e1 e2; subst e1 e2
  refine ⟨_, h3, ?_⟩
  show (ρ ++ [Value.slice none 0 0])[G.length]? = some _
  rw [List.getElem?_append_right (by rw [hs.len]; exact Nat.le_refl _)]
  simp [hs.len]
 ·exact (hf.mono (Pre.append _ _)) j sv hm
end
end Go.Kx
namespace Go.Kx
open Go.ChangeShapes Go.WideShapes Go.ChangeAt Go.RowKit

theorem trodAll_below {H : Type} {enc : TypeId × Value → H} {P : Program} (hl : laidOutB P = true) {W W' : World} (hb : Below W.heap.size W W') :
  ∀ (ts : List TypeId) (vs : List Value) (ds : List (DataW H)) (p : List MemPlace), (ts.all fun t => P.readableRec t && decide (t < P.types.size)) = true →
   DataW.TrodAll enc P W 0 (fun _ => true) true ts vs ds p → DataW.TrodAll enc P W' 0 (fun b => decide (b < W.heap.size)) true ts vs ds p
 | [], [], [], p, _, h => h
 | t :: ts, v :: vs, d :: ds, p, ht, h => by
  obtain ⟨p0, q0, h0, hr, rfl⟩ := h
  simp only [List.all_cons, Bool.and_eq_true, decide_eq_true_eq] at ht
  have hlt : ∀ x ∈ p0, x.block < W.heap.size := by obtain ⟨m, hm⟩ := h0; exact DataW.trod_lt m _ _ _ hm
  exact ⟨p0, q0, Below.trod hl ht.1.1 ht.1.2 h0 hb hlt, trodAll_below hl hb ts vs ds q0 ht.2 hr, rfl⟩
 | [], [], _ :: _, _, _, h => absurd h (by simp [DataW.TrodAll])
 | [], _ :: _, _, _, _, h => absurd h (by simp [DataW.TrodAll])
 | _ :: _, [], _, _, _, h => absurd h (by simp [DataW.TrodAll])
 | _ :: _, _ :: _, [], _, _, h => absurd h (by simp [DataW.TrodAll])

def LawWalk (P : Program) (f : FuncId) (fn : Func) (Pre : (H : Type) → List (DataW H) → Prop) : Prop :=
 ∀ (H : Type) (enc : TypeId × Value → H) (W : World) (args : Array Value) (base : Nat) (ds : List (DataW H)) (p : List MemPlace),
  DataW.TrodAll enc P W 0 (fun _ => true) true fn.params.toList args.toList ds p →
  (∀ (j : Nat) t v, fn.params[j]? = some t → args[j]? = some v → Value.okWide P W .any base t v) →
  (DataW.weightsEach P fn.params.toList ds).all (· ≤ reachBytes) = true → Pre H ds →
  Calls P f args W fun e W' => e = .returned (.bool true) ∧ Below W.heap.size W W'

theorem trodAll_length {H : Type} {enc : TypeId × Value → H} {P : Program} {w : World} {base : Nat} {spare : Nat → Bool} {held : Bool} : ∀ (ts : List TypeId) (vs : List Value) (ds : List (DataW H)) (p : List MemPlace),
  DataW.TrodAll enc P w base spare held ts vs ds p → ds.length = ts.length ∧ vs.length = ts.length := by
 intro ts
 induction ts with
 | nil => intro vs ds p h; cases vs <;> cases ds <;> simp_all [DataW.TrodAll]
 | cons t ts ih =>
  intro vs ds p h
  cases vs with
  | nil => simp [DataW.TrodAll] at h
  | cons v vs =>
   cases ds with
   | nil => simp [DataW.TrodAll] at h
   | cons d ds => obtain ⟨_, _, _, hr, _⟩ := h; have := ih _ _ _ hr; simp [this.1, this.2]

theorem law_post {P : Program} {fn : Func} {s : ChangeSpec} {tb : TypeId} {H : Type} {enc : TypeId × Value → H} {W W' : World} {args : Array Value} {ds gs : List (DataW H)} {before : List MemPlace} (hl : laidOutB P = true) (hvars : s.vars = []) (hres : fn.resultTypes = #[tb]) (htb : P.underlying tb = some .bool)
  (hread : (fn.params.toList.all fun t => P.readableRec t && decide (t < P.types.size)) = true)
  (hspec : ∀ (H : Type) (ds : List (DataW H)), ds.length = fn.params.size → s.fn H ds = { results := [.lit (.bool true)], args := ds })
  (hW : DataW.Whole enc P fn.params.toList s.vars false W args.toList ds gs before) (bel : Below W.heap.size W W') : s.post enc P fn false true false false W args (.bool true) W' := by
 have hW' := hW
 obtain ⟨p, q, hA, hV, rfl, hfz, hnd⟩ := hW
 rw [hvars] at hV
 obtain ⟨rfl, rfl⟩ := trodVars_none hV
 have hlen : ds.length = fn.params.size := by simpa using (trodAll_length _ _ _ _ hA).1
 have hfn1 : (s.fn H (ds ++ [])) = { results := [.lit (.bool true)], args := ds } := by rw [List.append_nil]; exact hspec H ds hlen
 refine ⟨ds, [], _, [], p, [], hW', ?_, ?_, ?_, bel.frame _, fun h => by cases h⟩
 ·rw [hfn1, hres]
  exact trodAll_mk1 (shut_bool htb _)
 ·rw [hfn1]
  exact trodAll_below hl bel _ _ _ _ hread hA
 ·rw [hvars, hfn1]; rfl

theorem law_lifted {C : Checked} {f : FuncId} {fn : Func} {s : ChangeSpec} {conds : List PathCond} {tb : TypeId} (own : ownKnob C.prog.godebug = none) (hl : laidOutB C.prog = true)
  (noInit : C.prog.inits.idxOf? f = none) (hfn : C.prog.funcs[f]? = some fn) (hvars : s.vars = []) (hres : fn.resultTypes = #[tb]) (htb : C.prog.underlying tb = some .bool)
  (hread : (fn.params.toList.all fun t => C.prog.readableRec t && decide (t < C.prog.types.size)) = true)
  (hspec : ∀ (H : Type) (ds : List (DataW H)), ds.length = fn.params.size → s.fn H ds = { results := [.lit (.bool true)], args := ds })
  (hwalk : LawWalk C.prog f fn (fun _ _ => True))
  (os : Os) (started : os.Started) (H : Type) (enc : TypeId × Value → H)
  (witness : ∃ (w : World) (tape : Tape) (i : Input), w.os = os ∧ (w.forCall tape i).Shaped C.prog ∧ i.vars = [] ∧ Input.okWide C.prog (w.forCall tape i) .any w.heap.size f i ∧
   s.pre6 enc C.prog fn conds false (w.forCall tape i).memory i.args ∧ ({} : Assume).holds C.prog (lone (Frame.enter C.prog f i.args .normal) [] (w.forCall tape i))) :
  ReturnsInHanded {} C os f .any (s.pre6 enc C.prog fn conds false) (s.post enc C.prog fn false true false false) := by
 refine returnsInHanded_of_change_sized own started noInit hfn witness ?_
 intro W base args ds gs before hval hW _ hsz _
 have hW' := hW
 obtain ⟨p, q, hA, hV, rfl, hfz, hnd⟩ := hW
 rw [hvars] at hV
 obtain ⟨rfl, rfl⟩ := trodVars_none hV
 have hvt : s.plain.varTypes C.prog = [] := by simp [ChangeSpec.plain, DataSpec.varTypes, hvars]
 rw [hvt, List.append_nil, List.append_nil] at hsz
 refine (hwalk H enc W args base ds p hA hval hsz trivial).mono fun e W' ⟨he, bel⟩ => ?_
 subst he
 exact ⟨_, rfl, law_post hl hvars hres htb hread hspec hW' bel⟩

theorem law_lifted_upto {C : Checked} {f : FuncId} {fn : Func} {s : ChangeSpec} {k : (H : Type) → List (DataW H) → Bool} {conds : List PathCond} {tb : TypeId} (own : ownKnob C.prog.godebug = none) (hl : laidOutB C.prog = true)
  (noInit : C.prog.inits.idxOf? f = none) (hfn : C.prog.funcs[f]? = some fn) (hvars : s.vars = []) (hres : fn.resultTypes = #[tb]) (htb : C.prog.underlying tb = some .bool)
  (hread : (fn.params.toList.all fun t => C.prog.readableRec t && decide (t < C.prog.types.size)) = true)
  (hspec : ∀ (H : Type) (ds : List (DataW H)), ds.length = fn.params.size → s.fn H ds = { results := [.lit (.bool true)], args := ds })
  (hwalk : LawWalk C.prog f fn (fun H ds => k H ds = true))
  (os : Os) (started : os.Started) (H : Type) (enc : TypeId × Value → H) (F : Stop.Interp)
  (witness : ∃ (w : World) (tape : Tape) (i : Input), w.os = os ∧ (w.forCall tape i).Shaped C.prog ∧ i.vars = [] ∧ Input.okWide C.prog (w.forCall tape i) .any w.heap.size f i ∧
   ({ OpenSpec.ofChange s with cond := some k } : OpenSpec).pre6 enc C.prog fn conds false (w.forCall tape i).memory i.args ∧ ({} : Assume).holds C.prog (lone (Frame.enter C.prog f i.args .normal) [] (w.forCall tape i))) :
  ReturnsInHanded {} C os f .any (({ OpenSpec.ofChange s with cond := some k } : OpenSpec).pre6 enc C.prog fn conds false) ((({ OpenSpec.ofChange s with cond := some k } : OpenSpec).at F).post enc C.prog fn false true false false) := by
 refine returnsInHanded_of_cond_sized (k := k) rfl own started noInit hfn witness ?_
 intro W base args ds gs before hval hW _ hk hsz _
 have hW' := hW
 obtain ⟨p, q, hA, hV, rfl, hfz, hnd⟩ := hW
 have hV' : DataW.TrodVars enc C.prog W (fun _ => true) s.vars gs q := hV
 rw [hvars] at hV'
 obtain ⟨rfl, rfl⟩ := trodVars_none hV'
 have hvt : s.plain.varTypes C.prog = [] := by simp [ChangeSpec.plain, DataSpec.varTypes, hvars]
 have hsz' : (DataW.weightsEach C.prog (fn.params.toList ++ s.plain.varTypes C.prog) (ds ++ [])).all (· ≤ reachBytes) = true := hsz
 rw [hvt, List.append_nil, List.append_nil] at hsz'
 rw [List.append_nil] at hk
 refine (hwalk H enc W args base ds p hA hval hsz' hk).mono fun e W' ⟨he, bel⟩ => ?_
 subst he
 exact ⟨_, rfl, law_post (s := s) hl hvars hres htb hread hspec hW' bel⟩

end Go.Kx
namespace Go.Kx
open Go.ChangeShapes Go.WideShapes Go.ChangeAt Go.RowKit Go.Deep

def heapOf (W : World) : Hp := fun b o => W.cell? ⟨b, o, none⟩
theorem St.begin (W : World) : St W (fun _ => False) (heapOf W) [] (heapOf W) [] W :=
 ⟨rfl, rfl, rfl, Nat.le_refl _, fun _ _ _ => rfl, .refl _, fun _ _ _ e => e, fun _ _ _ e => .inl e, rfl, fun k s r h => by simp at h, fun k g h => by simp [blkAt] at h, fun i j g h => by simp [blkAt] at h⟩
theorem law_of {P : Program} {f : FuncId} {svs : List SV} {W : World} {args : Array Value} {K : SE → Hp → List SB → Prop} (hgd : Gd W fun _ => False) (h : CallO P f svs (heapOf W) [] K) (hv : All2 (SV.Is []) svs args.toList) (hK : ∀ e H' G', K e H' G' → e = .ret (pv (.bool true))) :
  Calls P f args W fun e W' => e = .returned (.bool true) ∧ Below W.heap.size W W' := by
 have := h W (fun _ => False) hgd (heapOf W) [] W args.toList (St.begin W) hv
 refine this.mono fun e W' he => ?_
 cases e with
 | returned v =>
  obtain ⟨sv, ρ', H', G', h1, _, h3, _, h5⟩ := he
  have e1 := hK _ _ _ h5
  injection e1 with e1
  subst e1
  have h3 : v = .bool true := h3
  exact ⟨by rw [h3], h1.os, h1.tape, h1.output, h1.size, fun k hk => h1.old k hk id⟩
 | panicked ch => obtain ⟨_, _, _, _, _, _, h5⟩ := he; exact absurd (hK _ _ _ h5) (fun h => nomatch h)
 | outgrown => exact he.elim

theorem flat_get {α : Type} {E : α → List Value} {sz : Nat} (hE : ∀ y, (E y).length = sz) (hsz : 0 < sz) : ∀ (xs : List α) (j : Nat), (xs.flatMap E)[j]? = (xs[j / sz]?).bind fun y => (E y)[j % sz]?
 | [], j => by simp
 | x :: r, j => by
  rw [List.flatMap_cons]
  rcases Nat.lt_or_ge j sz with h | h
  ·rw [List.getElem?_append_left (by rw [hE]; exact h), Nat.div_eq_of_lt h, Nat.mod_eq_of_lt h]; rfl
  ·rw [List.getElem?_append_right (by rw [hE]; exact h), hE, flat_get hE hsz r (j - sz)]
   have e1 : j / sz = (j - sz) / sz + 1 := by rw [Nat.div_eq_sub_div hsz h]
   have e2 : j % sz = (j - sz) % sz := Nat.mod_eq_sub_mod h
   rw [e1, e2, List.getElem?_cons_succ]
theorem addr_add_add (a : Addr) (i j : Nat) : (a.add i).add j = a.add (i + j) := by
 unfold Addr.add
 by_cases hi : i = 0
 ·subst hi; simp
 ·by_cases hj : j = 0
  ·subst hj; simp [hi]
  ·simp [hi, hj, Nat.add_assoc]
theorem rd_slice {α : Type} (E : α → List Value) {sz : Nat} (hE : ∀ y, (E y).length = sz) (hsz : 0 < sz) {H : Type} {enc : TypeId × Value → H} {P : Program} {w : World} {t e : TypeId} {spare : Nat → Bool} {held : Bool} (ht : P.underlying t = some (.slice e)) (hs : P.cellsOf e = sz)
  (hel : ∀ n cs x, DataW.trod enc P w 0 spare held n e cs = some x → ∃ y, cs = E y) {fuel : Nat} {cs : List Value} {x : DataW H × List MemPlace}
  (h : DataW.trod enc P w 0 spare held fuel t cs = some x) : ∃ (A : Option Addr) (c : Nat) (xs : List α), cs = [.slice A xs.length c] ∧ (xs = [] ∨ RdN (heapOf w) A 0 (xs.flatMap E)) := by
 rcases open_slice ht h with ⟨rfl, _⟩ | ⟨a, len, cap, m, n, D, Pl, rfl, _, hl, hm, hmm, _, hx⟩
 ·exact ⟨none, 0, [], rfl, .inl rfl⟩
 ·have hle : len ≤ m := by rw [hmm]; split <;> omega
  have hex : ∀ i, i < len → ∃ y, w.cells? 0 (a.add (i * sz)) sz = some (E y) := fun i hi => by
   obtain ⟨cs', h1, h2⟩ := hx i (by omega)
   obtain ⟨y, rfl⟩ := hel _ _ _ h2
   rw [hs] at h1
   exact ⟨y, h1⟩
  have hlist : ∀ k, k ≤ len → ∃ xs : List α, xs.length = k ∧ ∀ j p, xs[j]? = some p → w.cells? 0 (a.add (j * sz)) sz = some (E p) := by
   intro k
   induction k with
   | zero => exact fun _ => ⟨[], rfl, fun j p h => by simp at h⟩
   | succ k ih =>
    intro hk
    obtain ⟨xs, hl, hxs⟩ := ih (by omega)
    obtain ⟨y, hy⟩ := hex k (by omega)
    refine ⟨xs ++ [y], by simp [hl], fun j p hj => ?_⟩
    by_cases hjk : j < k
    ·rw [List.getElem?_append_left (by omega)] at hj; exact hxs j p hj
    ·have hjl := (List.getElem?_eq_some_iff.1 hj).1
     simp at hjl
     obtain rfl : j = k := by omega
     rw [List.getElem?_append_right (by omega), hl] at hj
     simp at hj; subst hj; exact hy
  obtain ⟨xs, hxl, hxs⟩ := hlist len (Nat.le_refl _)
  subst hxl
  refine ⟨some a, cap, xs, rfl, ?_⟩
  cases xs with
  | nil => exact .inl rfl
  | cons x0 r =>
   right
   have key : ∀ j v, ((x0 :: r).flatMap E)[j]? = some v → w.cell? (a.add j) = some v := by
    intro j v hv
    rw [flat_get hE hsz] at hv
    obtain ⟨y, h1, h2⟩ := Option.bind_eq_some_iff.1 hv
    obtain ⟨_, _, h3⟩ := World.cells?_some (hxs _ _ h1)
    have := h3 (j % sz) (Nat.mod_lt _ hsz)
    rw [addr_add_add, Nat.mul_comm, Nat.div_add_mod] at this
    rw [this]; exact h2
   obtain ⟨b, o, sp⟩ := a
   have hsp : sp = none := by
    have h0 : 0 < (E x0).length := by rw [hE]; exact hsz
    have := key 0 (E x0)[0] (by rw [List.flatMap_cons, List.getElem?_append_left h0]; exact List.getElem?_eq_getElem h0)
    simpa [Addr.add] using World.cell?_spot this
   subst hsp
   refine ⟨b, o, rfl, fun j v hv => ?_⟩
   have := key j v hv
   rw [Addr.add_lit] at this
   simpa [heapOf] using this
section
variable {H : Type} {enc : TypeId × Value → H} {P : Program} {w : World} {base : Nat} {spare : Nat → Bool} {held : Bool}
theorem field_at {fs : Array Field} {cs : List Value} {xs : List (DataW H × List MemPlace)} {n : Nat} (hl : xs.length = fs.size)
  (hf : ∀ (i : Nat) (f : Field), fs[i]? = some f → DataW.trod enc P w base spare held n f.type ((cs.drop f.offset).take (P.cellsOf f.type)) = xs[i]?) (i t off : Nat) (h : (fs[i]?).map (fun f => (f.type, f.offset)) = some (t, off)) :
  ∃ y, DataW.trod enc P w base spare held n t ((cs.drop off).take (P.cellsOf t)) = some y := by
 obtain ⟨f, hfi, he⟩ := Option.map_eq_some_iff.1 h
 have hi := (Array.getElem?_eq_some_iff.1 hfi).1
 injection he with e1 e2
 subst e1 e2
 exact ⟨xs[i], by rw [hf i f hfi, List.getElem?_eq_getElem (by omega)]⟩
end
end Go.Kx
namespace Go.Kx
open Go.ChangeShapes Go.WideShapes Go.ChangeAt Go.RowKit

def LawWalkL (P : Program) (f : FuncId) (fn : Func) (L : List (String × DataW Unit)) : Prop :=
 ∀ (H : Type) (enc : TypeId × Value → H) (W : World) (args : Array Value) (base : Nat) (ds : List (DataW H)) (p : List MemPlace),
  DataW.TrodAll enc P W 0 (fun _ => true) true fn.params.toList args.toList ds p →
  (∀ (j : Nat) t v, fn.params[j]? = some t → args[j]? = some v → Value.okWide P W .any base t v) →
  (DataW.weightsEach P fn.params.toList ds).all (· ≤ reachBytes) = true → laidMetH P L W →
  Calls P f args W fun e W' => e = .returned (.bool true) ∧ Below W.heap.size W W'
theorem law_lifted_laid {C : Checked} {f : FuncId} {fn : Func} {s : ChangeSpec} {L : List (String × DataW Unit)} {conds : List PathCond} {tb : TypeId} (own : ownKnob C.prog.godebug = none) (hl : laidOutB C.prog = true)
  (noInit : C.prog.inits.idxOf? f = none) (hfn : C.prog.funcs[f]? = some fn) (hvars : s.vars = []) (hres : fn.resultTypes = #[tb]) (htb : C.prog.underlying tb = some .bool)
  (hread : (fn.params.toList.all fun t => C.prog.readableRec t && decide (t < C.prog.types.size)) = true)
  (hspec : ∀ (H : Type) (ds : List (DataW H)), ds.length = fn.params.size → s.fn H ds = { results := [.lit (.bool true)], args := ds })
  (hwalk : LawWalkL C.prog f fn L)
  (os : Os) (started : os.Started) (H : Type) (enc : TypeId × Value → H)
  (witness : ∃ (w : World) (tape : Tape) (i : Input), w.os = os ∧ (w.forCall tape i).Shaped C.prog ∧ i.vars = [] ∧ Input.okWide C.prog (w.forCall tape i) .any w.heap.size f i ∧
   ((s.pre enc C.prog fn conds false (w.forCall tape i).memory i.args ∧ laidMetH C.prog L (w.forCall tape i).memory) ∧ sizedMet enc C.prog fn (OpenSpec.ofChange s) false (w.forCall tape i).memory i.args) ∧ ({} : Assume).holds C.prog (lone (Frame.enter C.prog f i.args .normal) [] (w.forCall tape i))) :
  ReturnsInHanded {} C os f .any (fun w args => (s.pre enc C.prog fn conds false w args ∧ laidMetH C.prog L w) ∧ sizedMet enc C.prog fn (OpenSpec.ofChange s) false w args) (s.post enc C.prog fn false true false false) := by
 refine returnsInHanded_of_change_and (C := C) (X := fun w _ => laidMetH C.prog L w) (fun _ _ _ hh h => h.of_heap hh) own started noInit hfn witness ?_
 intro W base args ds gs before hval hW _ hsz hL _
 have hW' := hW
 obtain ⟨p, q, hA, hV, rfl, hfz, hnd⟩ := hW
 rw [hvars] at hV
 obtain ⟨rfl, rfl⟩ := trodVars_none hV
 have hvt : s.plain.varTypes C.prog = [] := by simp [ChangeSpec.plain, DataSpec.varTypes, hvars]
 rw [hvt, List.append_nil, List.append_nil] at hsz
 refine (hwalk H enc W args base ds p hA hval hsz hL).mono fun e W' ⟨he, bel⟩ => ?_
 subst he
 exact ⟨_, rfl, law_post hl hvars hres htb hread hspec hW' bel⟩
end Go.Kx
