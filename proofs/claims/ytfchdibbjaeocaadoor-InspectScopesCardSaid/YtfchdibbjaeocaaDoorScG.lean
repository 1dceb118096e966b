/- Scope texts: the library's Compact, whose row is read on; a look through texts. No condition of its own. -/
import Derived.Test.YtfchdibbjaeocaaDoorScF
namespace Go.Kx.Sco
open Go.Proofs Go.Kx Go.RowKit Go.Sort
set_option maxRecDepth 20000
set_option linter.unusedSimpArgs false
/-- What a call comes to that is handed a row, and hands on a slice of it, which is read on. -/
theorem of_calls_cutrow {P : Program} {f : FuncId} {H : Hp} {t : TypeId} {n m : Nat} {xs ys : List Value} (hn : 0 < n) (hmn : m ≤ n) (hy : ys.length = m)
    (h : ∀ (w : World) (g o cap : Nat) (cur : Array Value), w.heap[g]? = some (.cells cur t (0, 0)) → n ≤ cap → o + cap ≤ cur.size → (cur.toList.drop o).take n = xs →
      Calls P f #[.slice (some ⟨g, o, none⟩) n cap] w fun e w' => ∃ cur', e = .returned (.slice (some ⟨g, o, none⟩) m cap) ∧ w'.os = w.os ∧ w'.tape = w.tape ∧ w'.output = w.output ∧ w.heap.size ≤ w'.heap.size ∧ (∀ b, b < w.heap.size → b ≠ g → w'.heap[b]? = w.heap[b]?) ∧
        w'.heap[g]? = some (.cells cur' t (0, 0)) ∧ cur'.size = cur.size ∧ (cur'.toList.drop o).take m = ys) :
    CallO P f [.si (.ce (.self 0))] H [.row t 1 n xs] fun e H' G' => e = .ret (.si (.ce (.self 1))) ∧ H' = H ∧ G' = [.dead, .row t 1 m ys] := by
  intro w0 M hgd H0 ρ w vs hs hv
  obtain ⟨v0, rfl, hv0⟩ : ∃ v0, vs = [v0] ∧ ρ[0]? = some v0 := by
    cases hv with | cons h1 h2 => cases h2; exact ⟨_, rfl, h1⟩
  have hrow := hs.ok 0 _ _ rfl hv0
  rcases hrow.2 with ⟨_, h0⟩ | ⟨g, o, cap, cur, rfl, hg, hnc, hcm, hcs, htk⟩
  · omega
  rw [Nat.mul_one] at hcs htk
  have hl : ρ.length = 1 := hs.len
  obtain ⟨r0, rfl⟩ : ∃ r0, ρ = [r0] := by
    cases ρ with
    | nil => simp at hl
    | cons a r => cases r with
      | nil => exact ⟨a, rfl⟩
      | cons b r => simp at hl
  have e0 : r0 = .slice (some ⟨g, o, none⟩) n cap := by simpa using hv0
  subst e0
  have hown := hs.own 0 g (by rw [blkAt_eq (s := .row t 1 n xs) (r := .slice (some ⟨g, o, none⟩) n cap) rfl rfl]; rfl)
  refine (h w g o cap cur hg hnc hcs htk).mono fun e w' he => ?_
  obtain ⟨cur', rfl, e1, e2, e3, e4, e5, e6, e7, e8⟩ := he
  have hs2 := hs.turn (k := 0) (s' := .dead) rfl hv0 (g := g) rfl e1 e2 e3 e4 e5 trivial (.inr rfl)
  have hs3 := hs2.adopt (s := .row t 1 m ys) (r := .slice (some ⟨g, o, none⟩) m cap)
    ⟨by rw [Nat.mul_one]; exact hy, .inr ⟨g, o, cap, cur', rfl, e6, by omega, hcm, by omega, by rw [Nat.mul_one]; exact e8⟩⟩
    (fun g2 hg2 => by
      have e : g2 = g := by simp [SB.blk, Value.ownBlock] at hg2; exact hg2.symm
      subst e
      refine ⟨hown.1, hown.2, fun k hk => ?_⟩
      obtain ⟨s', r', h1, h2, h3⟩ := blkAt_some hk
      cases k with
      | zero =>
        have : s' = .dead := by simpa using h1.symm
        subst this
        simp [SB.blk] at h3
      | succ k => simp at h1)
  exact ⟨.si (.ce (.self 1)), _, H, _, hs3, Pre.append _ _, rfl, .refl _, rfl, rfl, rfl⟩
theorem compact_le (l : List (List UInt8)) : (Lib.compact l).length ≤ l.length := by
  unfold Lib.compact Lib.compactUpTo
  rw [List.length_map]
  refine Nat.le_trans (List.length_filter_le _ _) ?_
  rw [List.length_range]; exact Nat.le_refl _
namespace Pg
theorem compact_ (l : List (List UInt8)) (hn : l.length < 4611686018427387904) (h0 : 0 < l.length) (H : Hp) : CallO Tryd.prog 32 [.si (.ce (.self 0))] H [.row 9 1 l.length (stC l)] fun e H' G' => e = .ret (.si (.ce (.self 1))) ∧ H' = H ∧ G' = [.dead, .row 9 1 (Lib.compact l).length (stC (Lib.compact l))] := by
  have hle := compact_le l
  refine of_calls_cutrow h0 hle (stC_len _) fun w g o cap cur hg hnc hcs htk => ?_
  refine (Any.slices_Compact_string Tryd.laysCompact g o cap l w (So.holds_of hg htk) (by omega) hnc).mono fun e w' ⟨he, q, hw⟩ => ?_
  subst he hw
  have hb := So.block_put hg q o (Lib.compact l ++ List.replicate (l.length - (Lib.compact l).length) []).toArray #[]
  have hgr : grow (putRow encStr (Sort.ahead w q) g o (Lib.compact l ++ List.replicate (l.length - (Lib.compact l).length) []).toArray) #[] = putRow encStr (Sort.ahead w q) g o (Lib.compact l ++ List.replicate (l.length - (Lib.compact l).length) []).toArray := by
    unfold grow; simp; rfl
  rw [hgr] at hb
  obtain ⟨b1, b2, b3⟩ := hb
  refine ⟨_, rfl, rfl, rfl, rfl, b3, b2, b1, So.putCells_size _ _ _ _, ?_⟩
  have hlen : (Lib.compact l ++ List.replicate (l.length - (Lib.compact l).length) []).length = l.length := by
    rw [List.length_append, List.length_replicate]; omega
  have := So.take_put (Lib.compact l ++ List.replicate (l.length - (Lib.compact l).length) []) o cur (by rw [hlen]; omega)
  rw [hlen] at this
  have h2 := congrArg (List.take (Lib.compact l).length) this
  rw [List.take_take, Nat.min_eq_left hle] at h2
  rw [h2, stC_strs]
  unfold stC
  rw [List.map_append, List.take_append_of_le_length (by simp), List.take_of_length_le (by simp)]
theorem scopes1 (s : ByteArray) (hs : s.size ≤ 1000000) (H : Hp) : CallO Tryd.prog 29 [pv (.string s)] H [] fun e H' G' => e = .ret (pv (.bool (!RefN.isName s))) ∧ H' = H ∧ G' = [] := by
  refine CallO.of_body tab Tryd.func29 rfl (nt := Tryd.f29.ntmps) rfl (by kernel_rfl) ?_
  (conv => whnf)
  refine ⟨⟨_, Tryd.func30, rfl, by kernel_rfl⟩, CallS.use (name_ s hs H) [] rfl rfl trivial ?_⟩
  rintro e H1 G' hle1 ⟨rfl, rfl, rfl⟩
  (conv => whnf)
  exact ⟨rfl, rfl, rfl⟩
def allN (L : List (List UInt8)) : Bool := L.all fun l => RefN.isName ⟨l.toArray⟩
theorem index_ (L : List (List UInt8)) (hL : L.length ≤ 1000000) (hm : ∀ l ∈ L, l.length ≤ 1000000) (H : Hp) :
    CallO Tryd.prog 42 [.si (.ce (.self 0)), .si (.ce (.fn (.func 29) 0 []))] H [.row 9 1 L.length (stC L)] fun e H' G' => (∃ i : Int, (allN L = true → i = -1) ∧ (allN L = false → 0 ≤ i) ∧ e = .ret (pv (.int .i64 i))) ∧ H' = H ∧ G' = [.row 9 1 L.length (stC L)] := by
  refine CallO.of_body tab Tryd.func42 rfl (nt := Tryd.f42.ntmps) rfl (by kernel_rfl) ?_
  (conv => whnf)
  refine WS.loop (fun k F H2 G => ∃ i : Nat, i ≤ L.length ∧ allN (L.take i) = true ∧ k = L.length - i ∧ F = [(0, .si (.ce (.self 0))), (1, .si (.ce (.fn (.func 29) 0 []))), (7, pv (.int .i64 L.length)), (8, pv (.int .i64 i))] ∧ H2 = H ∧ G = [.row 9 1 L.length (stC L)]) (L.length + 1) ?_ ?_
  · refine ⟨L.length, by omega, _, _, [0], ⟨0, by omega, rfl, rfl, rfl, rfl, rfl⟩, ?_⟩
    exact ⟨rfl, ⟨rfl, trivial⟩, rfl, rfl, rfl, rfl, trivial⟩
  rintro k F H2 G hle ⟨i, hi, hall, rfl, rfl, rfl, rfl⟩
  refine codeL.go tab ?_
  (conv => whnf)
  refine br.of (fun h1 => ?_) (fun h1 => ?_) <;> (conv => whnf)
  · have h1 := of_decide_eq_true h1
    have hil : i < L.length := by omega
    have hget : L[i]? = some (L[i]'hil) := List.getElem?_eq_getElem _
    have hxm := hm _ (List.getElem_mem hil)
    generalize L[i]'hil = x at hget hxm
    have hgc : (stC L)[(i : Int).toNat * 1]? = some (.string ⟨x.toArray⟩) := by
      rw [show (i : Int).toNat * 1 = i by omega]; unfold stC; simp [hget]
    refine ⟨⟨by omega, by omega⟩, ?_⟩
    (conv => whnf)
    refine ⟨_, hgc, ?_⟩
    (conv => whnf)
    refine ⟨⟨_, Tryd.func29, rfl, by kernel_rfl⟩, CallS.use (scopes1 ⟨x.toArray⟩ (by show x.toArray.size ≤ _; rw [List.size_toArray]; omega) H2) [] rfl rfl trivial ?_⟩
    rintro e H4 G' hle5 ⟨rfl, rfl, rfl⟩
    cases hn : RefN.isName ⟨x.toArray⟩
    all_goals (conv => whnf)
    · have hno : allN L = false := by
        unfold allN
        rw [List.all_eq_false]
        exact ⟨x, List.mem_of_getElem? hget, by rw [hn]; decide⟩
      exact ⟨⟨_, fun h => (by rw [hno] at h; cases h), fun _ => by omega, rfl⟩, rfl, rfl⟩
    · rw [wrap64 (x := (i : Int) + 1) (by omega) (by omega)]
      refine ⟨L.length - (i + 1), by omega, _, _, [0], ⟨i + 1, by omega, ?_, rfl, rfl, rfl, rfl⟩, ?_⟩
      · unfold allN at hall ⊢
        rw [List.take_add_one, hget, List.all_append, hall]
        simp [hn]
      · exact ⟨rfl, ⟨rfl, trivial⟩, rfl, rfl, rfl, rfl, trivial⟩
  · have h1 := of_decide_eq_false h1
    obtain rfl : i = L.length := by omega
    rw [List.take_of_length_le (Nat.le_refl _)] at hall
    exact ⟨⟨_, fun _ => rfl, fun h => (by rw [hall] at h; cases h), rfl⟩, rfl, rfl⟩
theorem contains_ (L : List (List UInt8)) (hL : L.length ≤ 1000000) (hm : ∀ l ∈ L, l.length ≤ 1000000) (H : Hp) :
    CallO Tryd.prog 28 [.si (.ce (.self 0)), .si (.ce (.fn (.func 29) 0 []))] H [.row 9 1 L.length (stC L)] fun e H' G' => e = .ret (pv (.bool (!allN L))) ∧ H' = H ∧ G' = [.row 9 1 L.length (stC L)] := by
  refine CallO.of_body tab Tryd.func28 rfl (nt := Tryd.f28.ntmps) rfl (by kernel_rfl) ?_
  (conv => whnf)
  refine ⟨⟨_, Tryd.func42, rfl, by kernel_rfl⟩, CallS.use (index_ L hL hm H) [0] rfl rfl ⟨rfl, trivial⟩ ?_⟩
  rintro e H4 G' hle5 ⟨⟨i, h1, h2, rfl⟩, rfl, rfl⟩
  (conv => whnf)
  refine ⟨congrArg (fun b => SE.ret (pv (.bool b))) ?_, rfl, rfl⟩
  cases hr : allN L
  · exact decide_eq_true (h2 hr)
  · rw [h1 hr]; rfl
end Pg
end Go.Kx.Sco
