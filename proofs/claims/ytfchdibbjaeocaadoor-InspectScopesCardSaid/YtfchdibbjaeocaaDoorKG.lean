/- Contracts of the library's functions in use: one that hands out a row in new memory, one that turns a row of one's own. Generic in the program; no condition of its own. -/
import Derived.Test.YtfchdibbjaeocaaDoorKF
namespace Go.Kx
open Go.RowKit
section
variable {P : Program}
/-- What a call comes to that hands out a row in new memory. -/
theorem CallO.of_calls_row {f : FuncId} {args : List Value} {H : Hp} {t : TypeId} {R : Nat → List Value → Prop}
    (h : ∀ w : World, GlW w → H.In w → Calls P f args.toArray w fun e w' => ∃ n cap xs cur, e = .returned (.slice (some ⟨w.heap.size, 0, none⟩) n cap) ∧ w'.heap[w.heap.size]? = some (.cells cur t (0, 0)) ∧ xs.length = n ∧ n ≤ cap ∧ cap ≤ maxLen ∧ cap ≤ cur.size ∧ cur.toList.take n = xs ∧ R n xs ∧ w.grownBy w' none) :
    CallO P f (args.map pv) H [] fun e H' G' => ∃ n xs, R n xs ∧ e = .ret (.si (.ce (.self 0))) ∧ H' = H ∧ G' = [.row t 1 n xs] := by
  intro w0 M hgd H0 ρ w vs hs hv
  obtain rfl := pv_all ρ hv
  refine (h w (fun g cs hc => hs.gl hgd hc) hs.hin).mono fun e w' he => ?_
  obtain ⟨n, cap, xs, cur, rfl, hc, hl, hn, hm, hcs, htk, hR, hg⟩ := he
  have hρ0 : ρ = [] := List.eq_nil_of_length_eq_zero hs.len
  subst hρ0
  have hs1 := hs.grew hg (fun g e => by cases e)
  have hs2 := hs1.adopt (s := .row t 1 n xs) (r := .slice (some ⟨w.heap.size, 0, none⟩) n cap)
    ⟨by rw [Nat.mul_one]; exact hl, .inr ⟨w.heap.size, 0, cap, cur, rfl, hc, hn, hm, by omega, by rw [List.drop_zero, Nat.mul_one]; exact htk⟩⟩
    (fun g hg2 => by
      have e : g = w.heap.size := by simp [SB.blk, Value.ownBlock] at hg2; exact hg2.symm
      subst e
      exact ⟨.inl hs.size, hs.fresh, fun k hk => absurd (hs.lt hk) (Nat.lt_irrefl _)⟩)
  exact ⟨.si (.ce (.self 0)), _, H, _, hs2, Pre.append _ _, rfl, .refl _, n, xs, hR, rfl, rfl, rfl⟩
/-- What a call comes to that turns the row that is handed to it. -/
theorem CallO.of_calls_turn {f : FuncId} {H : Hp} {t : TypeId} {n : Nat} {xs ys : List Value} {R : Value → Prop} (hn : 0 < n)
    (h : ∀ (w : World) (g o cap : Nat) (cur : Array Value), GlW w → H.In w → w.heap[g]? = some (.cells cur t (0, 0)) → n ≤ cap → o + cap ≤ cur.size → (cur.toList.drop o).take n = xs →
      Calls P f #[.slice (some ⟨g, o, none⟩) n cap] w fun e w' => ∃ v cur', e = .returned v ∧ R v ∧ w'.os = w.os ∧ w'.tape = w.tape ∧ w'.output = w.output ∧ w.heap.size ≤ w'.heap.size ∧ (∀ b, b < w.heap.size → b ≠ g → w'.heap[b]? = w.heap[b]?) ∧
        w'.heap[g]? = some (.cells cur' t (0, 0)) ∧ cur'.size = cur.size ∧ (cur'.toList.drop o).take n = ys ∧ ys.length = n) :
    CallO P f [.si (.ce (.self 0))] H [.row t 1 n xs] fun e H' G' => ∃ v, R v ∧ e = .ret (svOf v) ∧ H' = H ∧ G' = [.row t 1 n ys] := by
  intro w0 M hgd H0 ρ w vs hs hv
  obtain ⟨v0, rfl, hv0⟩ : ∃ v0, vs = [v0] ∧ ρ[0]? = some v0 := by
    cases hv with | cons h1 h2 => cases h2; exact ⟨_, rfl, h1⟩
  have hrow := hs.ok 0 _ _ rfl hv0
  rcases hrow.2 with ⟨_, h0⟩ | ⟨g, o, cap, cur, rfl, hg, hnc, hcm, hcs, htk⟩
  · omega
  rw [Nat.mul_one] at hcs htk
  refine (h w g o cap cur (fun g cs hc => hs.gl hgd hc) hs.hin hg hnc hcs htk).mono fun e w' he => ?_
  obtain ⟨v, cur', rfl, hR, e1, e2, e3, e4, e5, e6, e7, e8, e9⟩ := he
  have hs2 := hs.turn (k := 0) (s' := .row t 1 n ys) rfl hv0 (g := g) rfl e1 e2 e3 e4 e5 ⟨by rw [Nat.mul_one]; exact e9, .inr ⟨g, o, cap, cur', rfl, e6, hnc, hcm, by omega, by rw [Nat.mul_one]; exact e8⟩⟩ (.inl rfl)
  exact ⟨svOf v, ρ, H, _, hs2, .refl _, svOf_is ρ v, .refl _, v, hR, rfl, rfl, rfl⟩
end
end Go.Kx
