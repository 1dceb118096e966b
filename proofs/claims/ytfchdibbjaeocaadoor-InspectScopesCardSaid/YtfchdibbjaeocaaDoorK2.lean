/- The frame law of calls: what is shown of a call with the blocks that it is handed alone holds among whatever other blocks. Generic; no condition of its own. -/
import Derived.Test.YtfchdibbjaeocaaDoorK1
namespace Go.Kx

def SC.ren (σ : List Nat) : SC → SC
  | .ptr k off => .ptr (σ.getD k 0) off
  | .self k => .self (σ.getD k 0)
  | .fn f n caps => .fn f n (caps.map fun p => (σ.getD p.1 0, p.2))
  | .val x => .val x
  | .pp A off => .pp A off
  | .any => .any
def SG.ren (σ : List Nat) : SG → SG
  | .ce x => .ce (x.ren σ)
  | .ag xs => .ag (xs.map (SC.ren σ))
def SV.ren (σ : List Nat) : SV → SV
  | .si x => .si (x.ren σ)
  | .tu xs => .tu (xs.map (SG.ren σ))
def SB.ren (σ : List Nat) : SB → SB
  | .box t cs => .box t (cs.map (SC.ren σ))
  | s => s
def SE.ren (σ : List Nat) : SE → SE
  | .ret v => .ret (v.ren σ)
  | .pan ch => .pan ch
/-- The blocks that are named are below n. -/
def SC.wf (n : Nat) : SC → Bool
  | .ptr k _ => Nat.blt k n
  | .self k => Nat.blt k n
  | .fn _ _ caps => caps.all fun p => Nat.blt p.1 n
  | _ => true
def SG.wf (n : Nat) : SG → Bool
  | .ce x => x.wf n
  | .ag xs => xs.all (SC.wf n)
def SV.wf (n : Nat) : SV → Bool
  | .si x => x.wf n
  | .tu xs => xs.all (SG.wf n)
def SB.wf (n : Nat) : SB → Bool
  | .box _ cs => cs.all (SC.wf n)
  | _ => true

theorem ren_fwd {σ : List Nat} {ρ0 ρ : List Value} (h : ∀ (k : Nat) (r : Value), ρ0[k]? = some r → ∃ k', σ[k]? = some k' ∧ ρ[k']? = some r) {c : SC} {y : Value} (hc : c.Is ρ0 y) : (c.ren σ).Is ρ y := by
  have hd : ∀ (k k' : Nat), σ[k]? = some k' → σ.getD k 0 = k' := fun k k' e => by rw [List.getD_eq_getElem?_getD, e]; rfl
  cases c with
  | val x => exact hc
  | ptr k off =>
    obtain ⟨r, h1, h2⟩ := hc
    obtain ⟨k', h3, h4⟩ := h k r h1
    exact ⟨r, by rw [hd k k' h3]; exact h4, h2⟩
  | self k =>
    obtain ⟨k', h3, h4⟩ := h k y hc
    show ρ[σ.getD k 0]? = some y
    rw [hd k k' h3]; exact h4
  | fn f n caps =>
    obtain ⟨ys, h1, h2⟩ := hc
    refine ⟨ys, h1, All2.map_left (h2.mono ?_)⟩
    rintro ⟨k, off⟩ z ⟨r, hr, hp⟩
    obtain ⟨k', h3, h4⟩ := h k r hr
    exact ⟨r, by show ρ[σ.getD k 0]? = some r; rw [hd k k' h3]; exact h4, hp⟩
  | pp A off => exact hc
  | any => trivial
theorem ren_fwdG {σ : List Nat} {ρ0 ρ : List Value} (h : ∀ (k : Nat) (r : Value), ρ0[k]? = some r → ∃ k', σ[k]? = some k' ∧ ρ[k']? = some r) {c : SG} {y : Value} (hc : c.Is ρ0 y) : (c.ren σ).Is ρ y := by
  cases c with
  | ce x => exact ren_fwd h hc
  | ag xs => obtain ⟨ys, h1, h2⟩ := hc; exact ⟨ys, h1, All2.map_left (h2.mono fun _ _ => ren_fwd h)⟩
theorem ren_fwdV {σ : List Nat} {ρ0 ρ : List Value} (h : ∀ (k : Nat) (r : Value), ρ0[k]? = some r → ∃ k', σ[k]? = some k' ∧ ρ[k']? = some r) {c : SV} {y : Value} (hc : c.Is ρ0 y) : (c.ren σ).Is ρ y := by
  cases c with
  | si x => exact ren_fwdG h hc
  | tu xs => obtain ⟨ys, h1, h2⟩ := hc; exact ⟨ys, h1, All2.map_left (h2.mono fun _ _ => ren_fwdG h)⟩
theorem ren_fwdB {σ : List Nat} {ρ0 ρ : List Value} (h : ∀ (k : Nat) (r : Value), ρ0[k]? = some r → ∃ k', σ[k]? = some k' ∧ ρ[k']? = some r) {s : SB} {w : World} {r : Value} (hs : s.Ok ρ0 w r) : (s.ren σ).Ok ρ w r := by
  cases s with
  | box t cs => obtain ⟨g, ys, h1, h2, h3⟩ := hs; exact ⟨g, ys, h1, h2, All2.map_left (h3.mono fun _ _ => ren_fwd h)⟩
  | _ => exact hs

theorem ren_bwd {σ : List Nat} {ρ0 ρ : List Value} (h : ∀ (k k' : Nat), σ[k]? = some k' → ρ0[k]? = ρ[k']?) {c : SC} {y : Value} (hw : c.wf σ.length = true) (hc : (c.ren σ).Is ρ y) : c.Is ρ0 y := by
  have hd : ∀ k : Nat, Nat.blt k σ.length = true → ρ0[k]? = ρ[σ.getD k 0]? := fun k hk => by
    have hk' : k < σ.length := by simpa using hk
    rw [h k σ[k] (List.getElem?_eq_getElem hk'), List.getD_eq_getElem?_getD, List.getElem?_eq_getElem hk']; rfl
  cases c with
  | val x => exact hc
  | ptr k off =>
    obtain ⟨r, h1, h2⟩ := hc
    exact ⟨r, by rw [hd k hw]; exact h1, h2⟩
  | self k => show ρ0[k]? = some y; rw [hd k hw]; exact hc
  | fn f n caps =>
    obtain ⟨ys, h1, h2⟩ := hc
    refine ⟨ys, h1, ?_⟩
    have h3 := h2.of_map_left
    have hw' : ∀ p ∈ caps, Nat.blt p.1 σ.length = true := List.all_eq_true.1 hw
    clear h1 h2 hw
    induction h3 with
    | nil => exact .nil
    | cons hx _ ih =>
      obtain ⟨r, hr, hp⟩ := hx
      exact .cons ⟨r, by rw [hd _ (hw' _ List.mem_cons_self)]; exact hr, hp⟩ (ih fun p hp => hw' p (List.mem_cons_of_mem _ hp))
  | pp A off => exact hc
  | any => trivial
theorem all2_bwd {α : Type} {R S : α → Value → Prop} {f : α → α} {p : α → Bool} (h : ∀ c y, p c = true → R (f c) y → S c y) : ∀ {l : List α} {m : List Value}, l.all p = true → All2 R (l.map f) m → All2 S l m
  | [], _, _, h2 => by cases h2; exact .nil
  | a :: l, _, hw, h2 => by
    simp only [List.all_cons, Bool.and_eq_true] at hw
    cases h2 with | cons h3 h4 => exact .cons (h _ _ hw.1 h3) (all2_bwd h hw.2 h4)
theorem ren_bwdG {σ : List Nat} {ρ0 ρ : List Value} (h : ∀ (k k' : Nat), σ[k]? = some k' → ρ0[k]? = ρ[k']?) {c : SG} {y : Value} (hw : c.wf σ.length = true) (hc : (c.ren σ).Is ρ y) : c.Is ρ0 y := by
  cases c with
  | ce x => exact ren_bwd h hw hc
  | ag xs => obtain ⟨ys, h1, h2⟩ := hc; exact ⟨ys, h1, all2_bwd (fun _ _ => ren_bwd h) hw h2⟩
theorem ren_bwdV {σ : List Nat} {ρ0 ρ : List Value} (h : ∀ (k k' : Nat), σ[k]? = some k' → ρ0[k]? = ρ[k']?) {c : SV} {y : Value} (hw : c.wf σ.length = true) (hc : (c.ren σ).Is ρ y) : c.Is ρ0 y := by
  cases c with
  | si x => exact ren_bwdG h hw hc
  | tu xs => obtain ⟨ys, h1, h2⟩ := hc; exact ⟨ys, h1, all2_bwd (fun _ _ => ren_bwdG h) hw h2⟩
theorem ren_bwdB {σ : List Nat} {ρ0 ρ : List Value} (h : ∀ (k k' : Nat), σ[k]? = some k' → ρ0[k]? = ρ[k']?) {s : SB} {w : World} {r : Value} (hw : s.wf σ.length = true) (hs : (s.ren σ).Ok ρ w r) : s.Ok ρ0 w r := by
  cases s with
  | box t cs => obtain ⟨g, ys, h1, h2, h3⟩ := hs; exact ⟨g, ys, h1, h2, all2_bwd (fun _ _ => ren_bwd h) hw h3⟩
  | _ => exact hs
theorem blk_ren (σ : List Nat) (s : SB) (r : Value) : (s.ren σ).blk r = s.blk r := by cases s <;> rfl

/-- The blocks behind a call: those that it was handed (at σ), what it made (behind all), the others. -/
def mergeG : List SB → List Nat → List SB → List SB
  | G, _, [] => G
  | G, k :: σ, s :: L => mergeG (G.set k s) σ L
  | G, [], s :: L => mergeG (G ++ [s]) [] L
/-- The places of what a call made. -/
def newIds (n m m' : Nat) : List Nat := (List.range (m' - m)).map (n + ·)

theorem mergeG_nil (G L : List SB) : mergeG G [] L = G ++ L := by
  induction L generalizing G with
  | nil => simp [mergeG]
  | cons s L ih => simp [mergeG, ih]
theorem mergeG_length : ∀ (σ : List Nat) (G L : List SB), σ.length ≤ L.length → (∀ k ∈ σ, k < G.length) → (mergeG G σ L).length = G.length + (L.length - σ.length)
  | [], G, L, _, _ => by rw [mergeG_nil]; simp
  | k :: σ, G, s :: L, hl, hk => by
    simp only [mergeG]
    rw [mergeG_length σ _ L (by simpa using hl) (fun k' h' => by simpa using hk k' (List.mem_cons_of_mem _ h'))]
    simp
  | _ :: _, _, [], hl, _ => by simp at hl
/-- At a place that was handed over. -/
theorem mergeG_at : ∀ (σ : List Nat) (G L : List SB), σ.length ≤ L.length → (∀ k ∈ σ, k < G.length) → σ.Nodup → ∀ (i k : Nat), σ[i]? = some k → (mergeG G σ L)[k]? = L[i]?
  | [], _, _, _, _, _, i, k, h => by simp at h
  | k0 :: σ, G, [], hl, _, _, _, _, _ => by simp at hl
  | k0 :: σ, G, s :: L, hl, hk, hn, i, k, h => by
    simp only [mergeG]
    have hn' := List.nodup_cons.1 hn
    have hk' : ∀ k ∈ σ, k < (G.set k0 s).length := fun k' h' => by simpa using hk k' (List.mem_cons_of_mem _ h')
    cases i with
    | zero =>
      simp at h; subst h
      have hot : ∀ (σ : List Nat) (G L : List SB), k0 ∉ σ → k0 < G.length → σ.length ≤ L.length → (mergeG G σ L)[k0]? = G[k0]? := by
        intro σ
        induction σ with
        | nil => intro G L _ hlt _; rw [mergeG_nil, List.getElem?_append_left hlt]
        | cons a σ ih =>
          intro G L hnot hlt hll
          cases L with
          | nil => simp at hll
          | cons s L =>
            simp only [mergeG]
            rw [ih _ _ (fun h => hnot (List.mem_cons_of_mem _ h)) (by simpa using hlt) (by simpa using hll), List.getElem?_set_ne (fun e => hnot (by rw [← e]; exact List.mem_cons_self))]
      rw [hot σ _ L hn'.1 (by simpa using hk k0 List.mem_cons_self) (by simpa using hl)]
      simp [hk k0 List.mem_cons_self]
    | succ i =>
      rw [mergeG_at σ _ L (by simpa using hl) hk' hn'.2 i k (by simpa using h)]
      simp
/-- At another elder place. -/
theorem mergeG_other : ∀ (σ : List Nat) (G L : List SB) (k0 : Nat), k0 ∉ σ → k0 < G.length → σ.length ≤ L.length → (mergeG G σ L)[k0]? = G[k0]?
  | [], G, L, k0, _, hlt, _ => by rw [mergeG_nil, List.getElem?_append_left hlt]
  | a :: σ, G, [], _, _, _, hll => by simp at hll
  | a :: σ, G, s :: L, k0, hnot, hlt, hll => by
    simp only [mergeG]
    rw [mergeG_other σ _ L k0 (fun h => hnot (List.mem_cons_of_mem _ h)) (by simpa using hlt) (by simpa using hll), List.getElem?_set_ne (fun e => hnot (by rw [← e]; exact List.mem_cons_self))]
/-- At a new place. -/
theorem mergeG_new : ∀ (σ : List Nat) (G L : List SB), σ.length ≤ L.length → (∀ k ∈ σ, k < G.length) → ∀ j, (mergeG G σ L)[G.length + j]? = L[σ.length + j]?
  | [], G, L, _, _, j => by rw [mergeG_nil, List.getElem?_append_right (by omega)]; simp
  | a :: σ, G, [], hll, _, _ => by simp at hll
  | a :: σ, G, s :: L, hll, hk, j => by
    simp only [mergeG]
    have := mergeG_new σ (G.set a s) L (by simpa using hll) (fun k' h' => by simpa using hk k' (List.mem_cons_of_mem _ h')) j
    rw [List.length_set] at this
    rw [this, List.length_cons, show σ.length + 1 + j = (σ.length + j) + 1 by omega, List.getElem?_cons_succ]

theorem getElem?_newIds {n m m' j : Nat} (h : j < m' - m) : (newIds n m m')[j]? = some (n + j) := by simp [newIds, h]

/-- **The frame law.** -/
theorem CallO.frame {P : Program} {f : FuncId} {svs0 : List SV} {H : Hp} {G0 : List SB} {K0 : SE → Hp → List SB → Prop} (h : CallO P f svs0 H G0 K0) (σ : List Nat) {G : List SB}
    (hl : σ.length = G0.length) (hG : ∀ (i : Nat) (s : SB), G0[i]? = some s → ∃ k, σ[i]? = some k ∧ G[k]? = some (s.ren σ)) (hnd : σ.Nodup)
    (hwG : G0.all (SB.wf σ.length) = true) (hwV : svs0.all (SV.wf σ.length) = true) {K : SE → Hp → List SB → Prop}
    (hK : ∀ e H' G0', H.Le H' → K0 e H' G0' → K (e.ren (σ ++ newIds G.length G0.length G0'.length)) H' (mergeG G σ (G0'.map (SB.ren (σ ++ newIds G.length G0.length G0'.length))))) :
    CallO P f (svs0.map (SV.ren σ)) H G K := by
  intro w0 M hgd H0 ρ w vs hs hv
  have hσlt : ∀ k ∈ σ, k < G.length := fun k hk => by
    obtain ⟨i, hi, rfl⟩ := List.getElem_of_mem hk
    obtain ⟨k', h1, h2⟩ := hG i G0[i] (List.getElem?_eq_getElem (by omega))
    rw [List.getElem?_eq_getElem hi] at h1
    injection h1 with h1
    rw [← h1] at h2
    exact (List.getElem?_eq_some_iff.1 h2).1
  -- the callee's own view
  let ρ0 : List Value := σ.map fun k => ρ.getD k (.tuple #[])
  have hρ0 : ∀ (k k' : Nat), σ[k]? = some k' → ρ0[k]? = ρ[k']? := fun k k' e => by
    have hlt : k' < ρ.length := by rw [hs.len]; exact hσlt k' (List.mem_of_getElem? e)
    simp [ρ0, e, List.getD_eq_getElem?_getD, List.getElem?_eq_getElem hlt]
  have hρ0l : ρ0.length = G0.length := by simp [ρ0, hl]
  let M' : Nat → Prop := fun b => ∃ k ∈ σ, blkAt ρ G k = some b
  have hblk : ∀ (i k : Nat), σ[i]? = some k → blkAt ρ0 G0 i = blkAt ρ G k := fun i k e => by
    have hi : i < G0.length := by rw [← hl]; exact (List.getElem?_eq_some_iff.1 e).1
    obtain ⟨k', h1, h2⟩ := hG i G0[i] (List.getElem?_eq_getElem hi)
    rw [e] at h1; injection h1 with h1; subst h1
    have hlt : k < ρ.length := by rw [hs.len]; exact (List.getElem?_eq_some_iff.1 h2).1
    rw [blkAt_eq (List.getElem?_eq_getElem hi) ((hρ0 i k e).trans (List.getElem?_eq_getElem hlt)), blkAt_eq h2 (List.getElem?_eq_getElem hlt), blk_ren]
  have hat : ∀ i : Nat, i < G0.length → ∃ k, σ[i]? = some k := fun i hi => ⟨σ[i], List.getElem?_eq_getElem (by omega)⟩
  have hs0 : St w M' H ρ0 H G0 w := by
    refine ⟨rfl, rfl, rfl, Nat.le_refl _, fun _ _ _ => rfl, .refl _, hs.hin, fun _ _ _ e => .inl e, hρ0l, ?_, ?_, ?_⟩
    · intro i s r h1 h2
      obtain ⟨k, hk, h3⟩ := hG i s h1
      rw [hρ0 i k hk] at h2
      exact ren_bwdB hρ0 (List.all_eq_true.1 hwG _ (List.mem_of_getElem? h1)) (hs.ok k _ r h3 h2)
    · intro i g hg
      have hi : i < G0.length := by
        obtain ⟨s, r, h1, _, _⟩ := blkAt_some hg
        exact (List.getElem?_eq_some_iff.1 h1).1
      obtain ⟨k, hk⟩ := hat i hi
      rw [hblk i k hk] at hg
      exact ⟨.inr ⟨k, List.mem_of_getElem? hk, hg⟩, (hs.own k g hg).2⟩
    · intro i j g hg hg'
      have hi : i < G0.length := by
        obtain ⟨s, r, h1, _, _⟩ := blkAt_some hg
        exact (List.getElem?_eq_some_iff.1 h1).1
      have hj : j < G0.length := by
        obtain ⟨s, r, h1, _, _⟩ := blkAt_some hg'
        exact (List.getElem?_eq_some_iff.1 h1).1
      obtain ⟨k, hk⟩ := hat i hi
      obtain ⟨k', hk'⟩ := hat j hj
      rw [hblk i k hk] at hg
      rw [hblk j k' hk'] at hg'
      have := hs.inj k k' g hg hg'
      subst this
      exact (List.getElem?_inj (by omega) hnd).1 (hk.trans hk'.symm)
  have hv0 : All2 (SV.Is ρ0) svs0 vs := all2_bwd (fun _ _ => ren_bwdV hρ0) hwV hv
  -- what the call leaves, seen by the caller
  have back : ∀ (ρ0' : List Value) (H' : Hp) (G0' : List SB) (w' : World), St w M' H ρ0' H' G0' w' → Pre ρ0 ρ0' → H.Le H' →
      ∃ ρ', St w0 M H0 ρ' H' (mergeG G σ (G0'.map (SB.ren (σ ++ newIds G.length G0.length G0'.length)))) w' ∧ Pre ρ ρ' ∧
        (∀ (k : Nat) (r : Value), ρ0'[k]? = some r → ∃ k', (σ ++ newIds G.length G0.length G0'.length)[k]? = some k' ∧ ρ'[k']? = some r) := by
    intro ρ0' H' G0' w' h0 hp hle
    have hlen0 : G0.length ≤ G0'.length := by
      rw [← hρ0l, ← h0.len]
      rcases Nat.lt_or_ge ρ0'.length ρ0.length with hlt | hge
      · have := hp ρ0'.length ρ0[ρ0'.length] (List.getElem?_eq_getElem hlt)
        simp at this
      · exact hge
    let ρ' := ρ ++ ρ0'.drop G0.length
    have hfw : ∀ (k : Nat) (r : Value), ρ0'[k]? = some r → ∃ k', (σ ++ newIds G.length G0.length G0'.length)[k]? = some k' ∧ ρ'[k']? = some r := by
      intro k r hk
      have hkl := (List.getElem?_eq_some_iff.1 hk).1
      rw [h0.len] at hkl
      rcases Nat.lt_or_ge k G0.length with hlt | hge
      · obtain ⟨k', hk'⟩ := hat k hlt
        refine ⟨k', by rw [List.getElem?_append_left (by omega)]; exact hk', ?_⟩
        have hlt' : k' < ρ.length := by rw [hs.len]; exact hσlt k' (List.mem_of_getElem? hk')
        have h1 : ρ0[k]? = some ρ[k'] := (hρ0 k k' hk').trans (List.getElem?_eq_getElem hlt')
        have h2 := hp k _ h1
        rw [hk] at h2
        rw [List.getElem?_append_left hlt', List.getElem?_eq_getElem hlt', ← h2]
      · refine ⟨G.length + (k - G0.length), ?_, ?_⟩
        · rw [List.getElem?_append_right (by omega), hl, getElem?_newIds (by omega)]
        · show (ρ ++ ρ0'.drop G0.length)[G.length + (k - G0.length)]? = some r
          rw [List.getElem?_append_right (by rw [hs.len]; omega), hs.len, show G.length + (k - G0.length) - G.length = k - G0.length by omega, List.getElem?_drop, show G0.length + (k - G0.length) = k by omega]
          exact hk
    have hml : (mergeG G σ (G0'.map (SB.ren (σ ++ newIds G.length G0.length G0'.length)))).length = G.length + (G0'.length - G0.length) := by
      rw [mergeG_length σ _ _ (by simp; omega) hσlt, List.length_map, hl]
    -- where a place of the merged blocks comes from
    have hplace : ∀ (k : Nat), k < (mergeG G σ (G0'.map (SB.ren (σ ++ newIds G.length G0.length G0'.length)))).length →
        (∃ i, i < G0'.length ∧ (σ ++ newIds G.length G0.length G0'.length)[i]? = some k ∧ (mergeG G σ (G0'.map (SB.ren (σ ++ newIds G.length G0.length G0'.length))))[k]? = (G0'[i]?).map (SB.ren (σ ++ newIds G.length G0.length G0'.length)) ∧ ρ'[k]? = ρ0'[i]?) ∨
        (k ∉ σ ∧ k < G.length ∧ (mergeG G σ (G0'.map (SB.ren (σ ++ newIds G.length G0.length G0'.length))))[k]? = G[k]? ∧ ρ'[k]? = ρ[k]?) := by
      intro k hk
      rw [hml] at hk
      by_cases hkσ : k ∈ σ
      · obtain ⟨i, hi, rfl⟩ := List.getElem_of_mem hkσ
        have hi' : σ[i]? = some σ[i] := List.getElem?_eq_getElem hi
        refine .inl ⟨i, by omega, by rw [List.getElem?_append_left hi]; exact hi', ?_, ?_⟩
        · rw [mergeG_at σ _ _ (by simp; omega) hσlt hnd i _ hi', List.getElem?_map]
        · have hlt' : σ[i] < ρ.length := by rw [hs.len]; exact hσlt _ hkσ
          rw [List.getElem?_append_left hlt', List.getElem?_eq_getElem hlt']
          exact (hp i _ ((hρ0 i _ hi').trans (List.getElem?_eq_getElem hlt'))).symm
      · rcases Nat.lt_or_ge k G.length with hlt | hge
        · refine .inr ⟨hkσ, hlt, mergeG_other σ _ _ k hkσ hlt (by simp; omega), ?_⟩
          rw [List.getElem?_append_left (by rw [hs.len]; exact hlt)]
        · refine .inl ⟨G0.length + (k - G.length), by omega, ?_, ?_, ?_⟩
          · rw [List.getElem?_append_right (by omega), hl, show G0.length + (k - G.length) - G0.length = k - G.length by omega, getElem?_newIds (by omega)]
            congr 1; omega
          · have := mergeG_new σ G (G0'.map (SB.ren (σ ++ newIds G.length G0.length G0'.length))) (by simp; omega) hσlt (k - G.length)
            rw [show G.length + (k - G.length) = k by omega, hl] at this
            rw [this, List.getElem?_map]
          · show (ρ ++ ρ0'.drop G0.length)[k]? = _
            rw [List.getElem?_append_right (by rw [hs.len]; exact hge), hs.len, List.getElem?_drop]
    have hbm : ∀ (k g : Nat), blkAt ρ' (mergeG G σ (G0'.map (SB.ren (σ ++ newIds G.length G0.length G0'.length)))) k = some g →
        (∃ i, (σ ++ newIds G.length G0.length G0'.length)[i]? = some k ∧ blkAt ρ0' G0' i = some g) ∨ (k ∉ σ ∧ blkAt ρ G k = some g) := by
      intro k g hg
      obtain ⟨s, r, h1, h2, h3⟩ := blkAt_some hg
      rcases hplace k (List.getElem?_eq_some_iff.1 h1).1 with ⟨i, _, hi, e1, e2⟩ | ⟨hn, _, e1, e2⟩
      · left
        rw [h1] at e1
        obtain ⟨s', hs', hr'⟩ := Option.map_eq_some_iff.1 e1.symm
        refine ⟨i, hi, ?_⟩
        rw [blkAt_eq hs' (e2.symm.trans h2), ← blk_ren, hr']
        exact h3
      · right
        exact ⟨hn, by rw [blkAt_eq (e1.symm.trans h1) (e2.symm.trans h2)]; exact h3⟩
    have hnotM : ∀ (k g : Nat), k ∉ σ → blkAt ρ G k = some g → ¬ M' g := fun k g hk hg ⟨k', hk', hg'⟩ => hk (by rw [hs.inj k k' g hg hg']; exact hk')
    have hM'own : ∀ b, M' b → (w0.heap.size ≤ b ∨ M b) ∧ H.Out b := fun b ⟨k, _, hg⟩ => hs.own k b hg
    refine ⟨ρ', ⟨h0.os.trans hs.os, h0.tape.trans hs.tape, h0.output.trans hs.output, Nat.le_trans hs.size h0.size, ?_, hs.hle.trans hle, h0.hin, ?_, ?_, ?_, ?_, ?_⟩, Pre.append _ _, hfw⟩
    · intro b hb hM
      rw [h0.old b (Nat.lt_of_lt_of_le hb hs.size) (fun hm => by
        rcases (hM'own b hm).1 with h | h
        · omega
        · exact hM h), hs.old b hb hM]
    · intro b o v e
      rcases h0.hnew b o v e with e | e | e
      · exact hs.hnew b o v e
      · exact .inr (.inl (Nat.le_trans hs.size e))
      · exact .inr (hM'own b e).1
    · rw [hml]
      show (ρ ++ ρ0'.drop G0.length).length = _
      rw [List.length_append, List.length_drop, hs.len, h0.len]
    · intro k s r h1 h2
      rcases hplace k (List.getElem?_eq_some_iff.1 h1).1 with ⟨i, _, hi, e1, e2⟩ | ⟨hn, hlt, e1, e2⟩
      · rw [h1] at e1
        obtain ⟨s', hs', rfl⟩ := Option.map_eq_some_iff.1 e1.symm
        exact ren_fwdB hfw (h0.ok i s' r hs' (e2.symm.trans h2))
      · have hok := hs.ok k s r (e1.symm.trans h1) (e2.symm.trans h2)
        refine (hok.move fun g hg => ?_).mono (Pre.append _ _)
        have hg' : blkAt ρ G k = some g := by rw [blkAt_eq (e1.symm.trans h1) (e2.symm.trans h2)]; exact hg
        exact h0.old g (hs.lt hg') (hnotM k g hn hg')
    · intro k g hg
      rcases hbm k g hg with ⟨i, _, hg'⟩ | ⟨hn, hg'⟩
      · obtain ⟨ho, hout⟩ := h0.own i g hg'
        refine ⟨?_, hout⟩
        rcases ho with ho | ho
        · exact .inl (Nat.le_trans hs.size ho)
        · exact (hM'own g ho).1
      · refine ⟨(hs.own k g hg').1, fun o => ?_⟩
        cases e : H' g o with
        | none => rfl
        | some v =>
          rcases h0.hnew g o v e with e | e | e
          · rw [(hs.own k g hg').2 o] at e; cases e
          · have := hs.lt hg'; omega
          · exact absurd e (hnotM k g hn hg')
    · intro i j g hg hg'
      rcases hbm i g hg with ⟨a, ha, h1⟩ | ⟨hn, h1⟩ <;> rcases hbm j g hg' with ⟨b, hb, h2⟩ | ⟨hn', h2⟩
      · have := h0.inj a b g h1 h2
        subst this
        rw [ha] at hb; exact Option.some.inj hb
      · exfalso
        rcases (h0.own a g h1).1 with h | h
        · have := hs.lt h2; omega
        · exact hnotM j g hn' h2 h
      · exfalso
        rcases (h0.own b g h2).1 with h | h
        · have := hs.lt h1; omega
        · exact hnotM i g hn h1 h
      · exact hs.inj i j g h1 h2
  refine (h w M' (hs.gd hgd fun b ⟨k, _, hk⟩ => ⟨k, hk⟩) H ρ0 w vs hs0 hv0).mono fun e w' he => ?_
  cases e with
  | returned v =>
    obtain ⟨sv, ρ0', H', G0', h1, h2, h3, h4, h5⟩ := he
    obtain ⟨ρ', a1, a2, a3⟩ := back ρ0' H' G0' w' h1 h2 h4
    exact ⟨_, ρ', H', _, a1, a2, ren_fwdV a3 h3, h4, hK _ _ _ h4 h5⟩
  | panicked ch =>
    obtain ⟨ρ0', H', G0', h1, h2, h4, h5⟩ := he
    obtain ⟨ρ', a1, a2, a3⟩ := back ρ0' H' G0' w' h1 h2 h4
    exact ⟨ρ', H', _, a1, a2, h4, hK _ _ _ h4 h5⟩
  | outgrown => exact he

/-- A call that is handed no block. -/
theorem CallO.pure_ {P : Program} {f : FuncId} {svs0 : List SV} {H : Hp} {K0 : SE → Hp → Prop} (h : CallO P f svs0 H [] fun e H' G' => G' = [] ∧ K0 e H') (hwV : svs0.all (SV.wf 0) = true) {G : List SB} {K : SE → Hp → List SB → Prop}
    (hren : svs0.map (SV.ren []) = svs0) (hK : ∀ e H', H.Le H' → K0 e H' → K (e.ren []) H' G) : CallO P f svs0 H G K := by
  have := CallO.frame (G := G) (K := K) h [] rfl (fun i s hi => by simp at hi) List.nodup_nil rfl hwV (fun e H' G0' hle ⟨hg, hk⟩ => by subst hg; exact hK e H' hle hk)
  rwa [hren] at this

end Go.Kx
