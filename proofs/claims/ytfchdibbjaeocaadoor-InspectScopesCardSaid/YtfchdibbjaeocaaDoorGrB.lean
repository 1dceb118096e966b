/- A builder of texts that is grown before it is written: the contract. No condition of its own. -/
import Derived.Test.YtfchdibbjaeocaaDoorGrA
namespace Go.Kx.Bu
open Go.Proofs Go.Kx Go.RowKit
set_option maxHeartbeats 2000000 in
set_option maxRecDepth 1000000 in
theorem Grow_w (b n : Nat) (w : World) (hbk : w.heap[b]? = some (.cells #[.pointer none, .slice none 0 0] 74 (0, 0))) (h0 : 0 < n) (hn : n ≤ 281474976710656) :
    Calls Tryd.prog 46 #[.pointer (some ⟨b, 0, none⟩), .int .i64 n] w fun e w' => ∃ cs : Array Value, cs.size ≤ maxLen ∧ e = .returned (.tuple #[]) ∧ w' = grewW (w.setCell ⟨b, 0, none⟩ (.pointer (some ⟨b, 0, none⟩))).drew b cs := by
  have hbk1 : (w.setCell ⟨b, 0, none⟩ (.pointer (some ⟨b, 0, none⟩))).heap[b]? = some (.cells #[.pointer (some ⟨b, 0, none⟩), .slice none 0 0] 74 (0, 0)) := by
    simp [World.setCell, Array.getElem?_modify, hbk]
  have c1 : (w.setCell ⟨b, 0, none⟩ (.pointer (some ⟨b, 0, none⟩))).cell? ⟨b, 1, none⟩ = some (.slice none 0 0) := by rw [Lib.cell_of_heap hbk1]; rfl
  have c1' : (w.setCell ⟨b, 0, none⟩ (.pointer (some ⟨b, 0, none⟩))).drew.cell? ⟨b, 1, none⟩ = some (.slice none 0 0) := c1
  have hdec : (decide ((0 : Int) < (n : Int))) = true := decide_eq_true (by omega)
  go_enter Tryd.func46, Tryd.ntmps46
  go_wp2_with (refine (cc_fresh b w (by rw [Lib.cell_of_heap hbk]; rfl) (by simp [World.shape?, hbk]) (Lib.frozen_of_heap hbk 0)).mono ?_; rintro e w' ⟨rfl, rfl⟩)
  go_region
  all_goals go_wp2_with (refine (grow_w b n (w.setCell ⟨b, 0, none⟩ (.pointer (some ⟨b, 0, none⟩))).drew hbk1 hn).mono ?_; rintro e w' ⟨cs, h1, rfl, rfl⟩)
  all_goals (go_end0; exact ⟨cs, h1, rfl, rfl⟩)
theorem Grow_ (n : Nat) (h0 : 0 < n) (hn : n ≤ 1000000) (H : Hp) : CallO Tryd.prog 46 [me, pv (.int .i64 n)] H [.box 74 [.val (.pointer none), .val (.slice none 0 0)]] fun e H' G' => e = .ret (.tu []) ∧ H' = H ∧ G' = [bB true (.self 1), rB []] := by
  intro w0 M hgd H0 ρ w vs hs hv
  have hl : ρ.length = 1 := hs.len
  obtain ⟨r0, rfl⟩ : ∃ r0, ρ = [r0] := by
    match ρ, hl with
    | [a], _ => exact ⟨a, rfl⟩
  obtain ⟨g, ys, rfl, hg, hys⟩ := hs.ok 0 _ r0 rfl rfl
  obtain rfl : ys = [.pointer none, .slice none 0 0] := by
    cases hys with | cons a b => cases b with | cons c d => cases d; cases a; cases c; rfl
  obtain rfl : vs = [.pointer (some ⟨g, 0, none⟩), .int .i64 n] := by
    cases hv with | cons a b =>
      cases b with | cons c d =>
        cases d
        obtain ⟨r, hr, hp⟩ := a
        have hr : Value.pointer (some ⟨g, 0, none⟩) = r := Option.some.inj hr
        subst hr
        have hp : Value.pointer (some ⟨g, 0, none⟩) = _ := Option.some.inj hp
        rw [← hp]
        have hc : _ = Value.int .i64 n := c
        rw [hc]
  have hlt : g < w.heap.size := (Array.getElem?_eq_some_iff.1 hg).1
  refine (Grow_w g n w hg h0 (by omega)).mono fun e w' ⟨cs, hcs, he, hw⟩ => ?_
  subst he
  have z1 : (w.setCell ⟨g, 0, none⟩ (.pointer (some ⟨g, 0, none⟩))).heap.size = w.heap.size := by unfold World.setCell; simp
  have g1 : (w.setCell ⟨g, 0, none⟩ (.pointer (some ⟨g, 0, none⟩))).heap[g]? = some (.cells #[.pointer (some ⟨g, 0, none⟩), .slice none 0 0] 74 (0, 0)) := by
    unfold World.setCell
    simp only [Array.getElem?_modify, if_true, hg]; rfl
  have o1 : ∀ j, j ≠ g → (w.setCell ⟨g, 0, none⟩ (.pointer (some ⟨g, 0, none⟩))).heap[j]? = w.heap[j]? := fun j hj => by
    unfold World.setCell
    simp only [Array.getElem?_modify]
    rw [if_neg (by omega)]
  generalize hW1 : w.setCell ⟨g, 0, none⟩ (.pointer (some ⟨g, 0, none⟩)) = W1 at *
  have z2 : (W1.drew.setCell ⟨g, 1, none⟩ (.slice (some ⟨w.heap.size, 0, none⟩) 0 cs.size)).heap.size = w.heap.size := by unfold World.setCell; simp only [Array.size_modify]; exact z1
  have g2 : (W1.drew.setCell ⟨g, 1, none⟩ (.slice (some ⟨w.heap.size, 0, none⟩) 0 cs.size)).heap[g]? = some (.cells #[.pointer (some ⟨g, 0, none⟩), .slice (some ⟨w.heap.size, 0, none⟩) 0 cs.size] 74 (0, 0)) := by
    unfold World.setCell
    have : W1.drew.heap[g]? = _ := g1
    simp only [Array.getElem?_modify, if_true, this]; rfl
  have o2 : ∀ j, j ≠ g → (W1.drew.setCell ⟨g, 1, none⟩ (.slice (some ⟨w.heap.size, 0, none⟩) 0 cs.size)).heap[j]? = w.heap[j]? := fun j hj => by
    unfold World.setCell
    simp only [Array.getElem?_modify]
    rw [if_neg (by omega)]
    exact o1 j hj
  have hos : w'.os = w.os ∧ w'.tape = w.tape ∧ w'.output = w.output := by subst hw hW1; exact ⟨rfl, rfl, rfl⟩
  have hz : W1.drew.heap.size = w.heap.size := z1
  unfold grewW at hw
  rw [hz] at hw
  generalize W1.drew.setCell ⟨g, 1, none⟩ (.slice (some ⟨w.heap.size, 0, none⟩) 0 cs.size) = W2 at *
  have hh : w'.heap = (W2.alloc (.cells cs 5)).heap := by rw [hw]; rfl
  have hG : w'.heap[g]? = some (.cells #[.pointer (some ⟨g, 0, none⟩), .slice (some ⟨w.heap.size, 0, none⟩) 0 cs.size] 74 (0, 0)) := by
    rw [hh, Lib.alloc_old W2 _ g (by omega)]; exact g2
  have hN : w'.heap[w.heap.size]? = some (.cells cs 5 (0, 0)) := by
    rw [hh, ← z2]; exact heap_alloc_new W2 _
  have hO : ∀ j, j < w.heap.size → j ≠ g → w'.heap[j]? = w.heap[j]? := fun j hj hne => by
    rw [hh, Lib.alloc_old W2 _ j (by omega)]; exact o2 j hne
  have hA : (w.alloc (.cells cs 5)).heap.size = w.heap.size + 1 := by simp
  have hS : w'.heap.size = w.heap.size + 1 := by
    have : (W2.alloc (.cells cs 5)).heap.size = W2.heap.size + 1 := by simp
    rw [hh, this, z2]
  have s1 := hs.grew (World.grownBy_alloc w (.cells cs 5) none) (fun g e => by cases e)
  have s2 := s1.adopt (s := rB []) (r := .slice (some ⟨w.heap.size, 0, none⟩) 0 cs.size)
    ⟨rfl, .inr ⟨w.heap.size, 0, cs.size, cs, rfl, heap_alloc_new w _, Nat.zero_le _, hcs, by omega, rfl⟩⟩
    (fun g2 hg2 => by
      have e : g2 = w.heap.size := by simp [SB.blk, rB, Value.ownBlock] at hg2; exact hg2.symm
      subst e
      exact ⟨.inl hs.size, hs.fresh, fun k hk => absurd (hs.lt hk) (Nat.lt_irrefl _)⟩)
  have s3 := s2.turn (k := 0) (s' := bB true (.self 1)) rfl rfl (g := g) rfl (w' := w') hos.1 hos.2.1 hos.2.2 (by rw [hS, hA]; exact Nat.le_refl _) (fun j hj hne => by
    rw [hA] at hj
    rcases Nat.lt_or_eq_of_le (Nat.le_of_lt_succ hj) with h | h
    · rw [hO j h hne, Lib.alloc_old w _ j h]
    · subst h; rw [hN, heap_alloc_new]) ⟨g, [.pointer (some ⟨g, 0, none⟩), .slice (some ⟨w.heap.size, 0, none⟩) 0 cs.size], rfl, hG, .cons ⟨_, rfl, rfl⟩ (.cons rfl .nil)⟩ (.inl rfl)
  exact ⟨.tu [], _, H, _, s3, Pre.append _ _, ⟨[], rfl, .nil⟩, .refl _, rfl, rfl, rfl⟩
end Go.Kx.Bu
