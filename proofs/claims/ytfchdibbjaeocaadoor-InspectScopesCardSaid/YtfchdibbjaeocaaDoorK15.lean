/- A row that is not written any more is read for good. Generic in the program; no condition of its own. -/
import Derived.Test.YtfchdibbjaeocaaDoorK14
namespace Go.Kx
open Go.RowKit

/-- x is the row xs of n elements, read for good. -/
def Frozen (H : Hp) (x : Value) (n : Nat) (xs : List Value) : Prop :=
  (x = .slice none 0 0 ∧ n = 0 ∧ xs = []) ∨ ∃ g o cap, x = .slice (some ⟨g, o, none⟩) n cap ∧ n ≤ cap ∧ RdN H (some ⟨g, o, none⟩) 0 xs
theorem Frozen.slice {H : Hp} {x : Value} {n : Nat} {xs : List Value} (h : Frozen H x n xs) : ∃ A cap, x = .slice A n cap ∧ n ≤ cap ∧ (xs = [] ∨ RdN H A 0 xs) := by
  rcases h with ⟨rfl, rfl, rfl⟩ | ⟨g, o, cap, rfl, h1, h2⟩
  · exact ⟨none, 0, rfl, Nat.le_refl _, .inl rfl⟩
  · exact ⟨_, cap, rfl, h1, .inr h2⟩
/-- H with the row ys at block g, from cell o on. -/
def Hp.putAt (H : Hp) (g o : Nat) (ys : List Value) : Hp := fun b i => if b = g then (if o ≤ i then ys[i - o]? else none) else H b i
theorem Hp.putAt_le {H : Hp} {g o : Nat} {ys : List Value} (hg : H.Out g) : H.Le (H.putAt g o ys) := fun b i v e => by
  unfold Hp.putAt
  split
  · rename_i hb; subst hb; rw [hg i] at e; cases e
  · exact e
theorem Hp.putAt_rd {H : Hp} {g o : Nat} {ys : List Value} : RdN (H.putAt g o ys) (some ⟨g, o, none⟩) 0 ys := ⟨g, o, rfl, fun j x hx => by simp [Hp.putAt, hx]⟩
theorem Hp.putAt_inv {H : Hp} {g o : Nat} {ys : List Value} {b i : Nat} {v : Value} (e : H.putAt g o ys b i = some v) : H b i = some v ∨ (b = g ∧ o ≤ i ∧ ys[i - o]? = some v) := by
  unfold Hp.putAt at e
  split at e
  · rename_i hb
    split at e
    · rename_i ho; exact .inr ⟨hb, ho, e⟩
    · cases e
  · exact .inl e
theorem St.frz {w0 : World} {M : Nat → Prop} {H0 : Hp} {ρ : List Value} {H : Hp} {G : List SB} {w : World} (h : St w0 M H0 ρ H G w) {k : Nat} {e : TypeId} {sz n : Nat} {xs : List Value} (hk : G[k]? = some (.row e sz n xs)) (hz : n = 0 → xs = []) :
    ∃ x H', St w0 M H0 ρ H' (G.set k (.frz x)) w ∧ H.Le H' ∧ Frozen H' x n xs ∧ ρ[k]? = some x := by
  obtain ⟨r, hr, hok⟩ := h.at hk
  rcases hok.2 with ⟨rfl, hn⟩ | ⟨g, o, cap, cur, rfl, hg, hnc, _, hcs, htk⟩
  · refine ⟨_, H, ?_, .refl _, .inl ⟨rfl, hn, hz hn⟩, hr⟩
    have hkl := (List.getElem?_eq_some_iff.1 hk).1
    have hb : ∀ j x, blkAt ρ (G.set k (.frz (.slice none 0 0))) j = some x → blkAt ρ G j = some x := fun j x hx => by
      obtain ⟨s1, r1, h1, h2, h3⟩ := blkAt_some hx
      by_cases hjk : k = j
      · subst hjk
        rw [List.getElem?_set_self hkl] at h1
        injection h1 with h1; subst h1
        simp [SB.blk] at h3
      · rw [List.getElem?_set_ne hjk] at h1
        rw [blkAt_eq h1 h2]; exact h3
    refine ⟨h.os, h.tape, h.output, h.size, h.old, h.hle, h.hin, h.hnew, by simp [h.len], ?_, fun j x hx => h.own j x (hb j x hx), fun i j x hi hj => h.inj i j x (hb i x hi) (hb j x hj)⟩
    intro j s1 r1 h1 h2
    by_cases hjk : k = j
    · subst hjk
      rw [List.getElem?_set_self hkl] at h1
      injection h1 with h1; subst h1
      rw [hr] at h2; injection h2 with h2
      exact h2.symm
    · rw [List.getElem?_set_ne hjk] at h1
      exact h.ok j s1 r1 h1 h2
  · have hout : H.Out g := (h.own k g (by rw [blkAt_eq hk hr]; rfl)).2
    refine ⟨_, H.putAt g o xs, ?_, Hp.putAt_le hout, .inr ⟨g, o, cap, rfl, hnc, Hp.putAt_rd⟩, hr⟩
    refine h.give hk hr (g := g) rfl (fun b i v ev => ?_) (Hp.putAt_le hout) rfl rfl
    rcases Hp.putAt_inv ev with e1 | ⟨rfl, e0, e1⟩
    · exact .inl e1
    · refine .inr ⟨rfl, ?_⟩
      rw [← htk, List.getElem?_take] at e1
      split at e1
      · simp only [World.cell?, hg]
        rw [List.getElem?_drop, show o + (i - o) = i by omega] at e1
        simpa using e1
      · cases e1

/-- What stood for block k itself is x. -/
def SC.at (k : Nat) (x : Value) : SC → SC
  | .self j => match Nat.beq j k with
    | true => .val x
    | false => .self j
  | .val y => .val y
  | .ptr j o => .ptr j o
  | .fn f n c => .fn f n c
  | .pp A o => .pp A o
  | .any => .any
def SG.at (k : Nat) (x : Value) : SG → SG
  | .ce c => .ce (c.at k x)
  | .ag l => .ag (l.map (SC.at k x))
def SV.at (k : Nat) (x : Value) : SV → SV
  | .si c => .si (c.at k x)
  | .tu l => .tu (l.map (SG.at k x))
def SB.at (k : Nat) (x : Value) : SB → SB
  | .box t cs => .box t (cs.map (SC.at k x))
  | s => s
section
variable {ρ : List Value} {k : Nat} {x : Value}
theorem SC.Is.at (hk : ρ[k]? = some x) {c : SC} {y : Value} (h : c.Is ρ y) : (c.at k x).Is ρ y := by
  cases c with
  | self j =>
    have h1 : ρ[j]? = some y := h
    have key : ∀ b : Bool, Nat.beq j k = b → SC.Is ρ (match b with
      | true => SC.val x
      | false => SC.self j) y := by
      intro b hb
      cases b with
      | true =>
        have := Nat.eq_of_beq_eq_true hb
        subst this
        rw [hk] at h1; injection h1 with h1
        exact h1.symm
      | false => exact h
    exact key _ rfl
  | _ => exact h
theorem SG.Is.at (hk : ρ[k]? = some x) {c : SG} {y : Value} (h : c.Is ρ y) : (c.at k x).Is ρ y := by
  cases c with
  | ce c => exact SC.Is.at hk h
  | ag l => obtain ⟨ys, h1, h2⟩ := h; exact ⟨ys, h1, All2.map_left (h2.mono fun _ _ => SC.Is.at hk)⟩
theorem SV.Is.at (hk : ρ[k]? = some x) {c : SV} {y : Value} (h : c.Is ρ y) : (c.at k x).Is ρ y := by
  cases c with
  | si c => exact SG.Is.at hk h
  | tu l => obtain ⟨ys, h1, h2⟩ := h; exact ⟨ys, h1, All2.map_left (h2.mono fun _ _ => SG.Is.at hk)⟩
theorem SB.at_blk (s : SB) (r : Value) : (s.at k x).blk r = s.blk r := by cases s <;> rfl
theorem SB.Ok.at (hk : ρ[k]? = some x) {s : SB} {w : World} {r : Value} (h : s.Ok ρ w r) : (s.at k x).Ok ρ w r := by
  cases s with
  | box t cs => obtain ⟨g, ys, h1, h2, h3⟩ := h; exact ⟨g, ys, h1, h2, All2.map_left (h3.mono fun _ _ => SC.Is.at hk)⟩
  | _ => exact h
end
theorem St.atAll {w0 : World} {M : Nat → Prop} {H0 : Hp} {ρ : List Value} {H : Hp} {G : List SB} {w : World} (h : St w0 M H0 ρ H G w) {k : Nat} {x : Value} (hk : ρ[k]? = some x) : St w0 M H0 ρ H (G.map (SB.at k x)) w := by
  have hb : ∀ j, blkAt ρ (G.map (SB.at k x)) j = blkAt ρ G j := fun j => by
    unfold blkAt
    rw [List.getElem?_map]
    cases G[j]? with
    | none => rfl
    | some s =>
      simp only [Option.map_some]
      cases ρ[j]? with
      | none => rfl
      | some r => exact SB.at_blk s r
  refine ⟨h.os, h.tape, h.output, h.size, h.old, h.hle, h.hin, h.hnew, by simp [h.len], ?_, fun j g hg => h.own j g (by rw [← hb]; exact hg), fun i j g hi hj => h.inj i j g (by rw [← hb]; exact hi) (by rw [← hb]; exact hj)⟩
  intro j s r h1 h2
  rw [List.getElem?_map] at h1
  obtain ⟨s', e1, rfl⟩ := Option.map_eq_some_iff.1 h1
  exact (h.ok j s' r e1 h2).at hk

section
variable {P : Program}
/-- What a call leaves: its row k is read for good from there on. -/
theorem CallO.frz {f : FuncId} {svs : List SV} {H : Hp} {G : List SB} {K0 K : SE → Hp → List SB → Prop} (h : CallO P f svs H G K0)
    (hK : ∀ e H' G', H.Le H' → K0 e H' G' → match e with
      | .ret v => ∃ k t sz n xs, G'[k]? = some (.row t sz n xs) ∧ (n = 0 → xs = []) ∧ ∀ x H2, H'.Le H2 → Frozen H2 x n xs → K (.ret (v.at k x)) H2 ((G'.set k .dead).map (SB.at k x))
      | .pan ch => K (.pan ch) H' G') : CallO P f svs H G K := by
  intro w0 M hgd H0 ρ w vs hs hv
  refine (h w0 M hgd H0 ρ w vs hs hv).mono fun e w' he => ?_
  cases e with
  | returned v =>
    obtain ⟨sv, ρ', H', G', h1, h2, h3, h4, h5⟩ := he
    obtain ⟨k, t, sz, n, xs, h6, h7, h8⟩ := hK _ _ _ h4 h5
    obtain ⟨x, H2, a1, a2, a3, a4⟩ := h1.frz h6 h7
    have a5 := a1.kill k
    rw [List.set_set] at a5
    exact ⟨_, ρ', H2, _, a5.atAll a4, h2, h3.at a4, h4.trans a2, h8 x H2 a2 a3⟩
  | panicked ch => obtain ⟨ρ', H', G', h1, h2, h4, h5⟩ := he; exact ⟨ρ', H', G', h1, h2, h4, hK _ _ _ h4 h5⟩
  | outgrown => exact he
/-- The same, in the middle of a walk. -/
def frameAt (k : Nat) (x : Value) (F : Fr) : Fr := F.map fun p => (p.1, p.2.at k x)
theorem codeL.frz {n e : Nat} {D : Pin} {c : Code} {K : KT} {F : Fr} {H : Hp} {G : List SB} (k : Nat) {t : TypeId} {sz m : Nat} {xs : List Value} (hk : G[k]? = some (.row t sz m xs)) (hz : m = 0 → xs = [])
    (h : ∀ x H2, H.Le H2 → Frozen H2 x m xs → codeL P n e D c K (frameAt k x F) H2 ((G.set k .dead).map (SB.at k x))) : codeL P n e D c K F H G := by
  refine ⟨fun w0 M hgd H0 ρ a w hs hf hd hn => ?_⟩
  obtain ⟨x, H2, a1, a2, a3, a4⟩ := hs.frz hk hz
  have a5 := a1.kill k
  rw [List.set_set] at a5
  have hf' : FOk ρ (frameAt k x F) a.tmps := by
    intro i sv hi
    obtain ⟨⟨j, s⟩, hm, he⟩ := List.mem_map.1 hi
    injection he with e1 e2; subst e1 e2
    obtain ⟨v, h1, h2⟩ := hf j s hm
    exact ⟨v, h1, h2.at a4⟩
  exact wp_mono ((h x H2 a2 a3).to w0 M hgd H0 ρ a w (a5.atAll a4) hf' hd hn) (PostX.le (.refl _ _) a2)
/-- nil is a row without elements. -/
theorem WS.nilRow {n e : Nat} {D : Pin} {c : Code} {K : KT} {F : Fr} {H : Hp} {G : List SB} (i : Nat) (t : TypeId) (sz : Nat) (hi : getX F i fun sv => sv = .si (.ce (.val (.slice none 0 0)))) (h : appG G (.row t sz 0 []) fun G' j => WS P n e D c K ((i, .si (.ce (.self j))) :: F) H G') : WS P n e D c K F H G := by
  have h := appG_ok h
  obtain ⟨sv, h1, h2⟩ := getX_ok hi
  subst h2
  refine ⟨fun w0 M hgd H0 ρ a w hs hf hd hn => ?_⟩
  have hs' := hs.adopt (s := .row t sz 0 []) (r := .slice none 0 0) (OwnRow.nil w t sz) (fun g hg => by simp [SB.blk, Value.ownBlock] at hg)
  obtain ⟨v, h3, h4⟩ := hf i _ h1
  have h4' : v = .slice none 0 0 := h4
  subst h4'
  refine wp_mono (h.to w0 M hgd H0 _ a w hs' ?_ hd hn) (PostX.le (Pre.append _ _).toE (.refl _))
  intro j sv hm
  rcases List.mem_cons.1 hm with hm | hm
  · injection hm with e1 e2; subst e1 e2
    refine ⟨_, h3, ?_⟩
    show (ρ ++ [Value.slice none 0 0])[G.length]? = some _
    rw [List.getElem?_append_right (by rw [hs.len]; exact Nat.le_refl _)]
    simp [hs.len]
  · exact (hf.mono (Pre.append _ _)) j sv hm
end
end Go.Kx
