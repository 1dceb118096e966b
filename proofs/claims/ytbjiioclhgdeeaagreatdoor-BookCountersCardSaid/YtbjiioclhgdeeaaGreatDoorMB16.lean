/- A builder of texts that is grown before it is written: the contract. No condition of its own. -/
import Derived.Test.YtbjiioclhgdeeaaGreatDoorMB15
import Derived.Lib.IndexLaws
import Derived.Lib.TrimByte
import Derived.Shelf.Strings.Count
import Derived.Shelf.Strings.Search3
namespace Go.Kx.Bu
open Go.Proofs Go.Kx Go.RowKit
set_option maxHeartbeats 2000000 in
set_option maxRecDepth 1000000 in
theorem Grow_w (b n : Nat) (w : World) (hbk : w.heap[b]? = some (.cells #[.pointer none, .slice none 0 0] 242 (0, 0))) (h0 : 0 < n) (hn : n ≤ 281474976710656) :
  Calls Tryz.prog 340 #[.pointer (some ⟨b, 0, none⟩), .int .i64 n] w fun e w' => ∃ cs : Array Value, cs.size ≤ maxLen ∧ e = .returned (.tuple #[]) ∧ w' = grewW (w.setCell ⟨b, 0, none⟩ (.pointer (some ⟨b, 0, none⟩))).drew b cs := by
 have hbk1 : (w.setCell ⟨b, 0, none⟩ (.pointer (some ⟨b, 0, none⟩))).heap[b]? = some (.cells #[.pointer (some ⟨b, 0, none⟩), .slice none 0 0] 242 (0, 0)) := by
  simp [World.setCell, Array.getElem?_modify, hbk]
 have c1 : (w.setCell ⟨b, 0, none⟩ (.pointer (some ⟨b, 0, none⟩))).cell? ⟨b, 1, none⟩ = some (.slice none 0 0) := by rw [Lib.cell_of_heap hbk1]; rfl
 have c1' : (w.setCell ⟨b, 0, none⟩ (.pointer (some ⟨b, 0, none⟩))).drew.cell? ⟨b, 1, none⟩ = some (.slice none 0 0) := c1
 have hdec : (decide ((0 : Int) < (n : Int))) = true := decide_eq_true (by omega)
 go_enter Tryz.func340, Tryz.ntmps340
 go_wp2_with (refine (cc_fresh b w (by rw [Lib.cell_of_heap hbk]; rfl) (by simp [World.shape?, hbk]) (Lib.frozen_of_heap hbk 0)).mono ?_; rintro e w' ⟨rfl, rfl⟩)
 go_region
 all_goals go_wp2_with (refine (grow_w b n (w.setCell ⟨b, 0, none⟩ (.pointer (some ⟨b, 0, none⟩))).drew hbk1 hn).mono ?_; rintro e w' ⟨cs, h1, rfl, rfl⟩)
 all_goals (go_end0; exact ⟨cs, h1, rfl, rfl⟩)
theorem Grow_ (n : Nat) (h0 : 0 < n) (hn : n ≤ 1000000) (H : Hp) : CallO Tryz.prog 340 [me, pv (.int .i64 n)] H [.box 242 [.val (.pointer none), .val (.slice none 0 0)]] fun e H' G' => e = .ret (.tu []) ∧ H' = H ∧ G' = [bB true (.self 1), rB []] := by
 intro w0 M hgd H0 ρ w vs hs hv
 have hl : ρ.length = 1 := hs.len
 obtain ⟨r0, rfl⟩ : ∃ r0, ρ = [r0] := by
  match ρ, hl with
  | [a], _ => exact ⟨a, rfl⟩
 obtain ⟨g, ys, rfl, hg, hys⟩ := hs.ok 0 _ r0 rfl rfl
 obtain rfl : ys = [.pointer none, .slice none 0 0] := by
  cases hys with | cons a b => cases b with | cons c d => cases d; cases a; cases c; rfl
 obtain rfl : vs = [.pointer (some ⟨g, 0, none⟩), .int .i64 n] := by
  cases hv with | cons a b =>
   cases b with | cons c d =>
    cases d
    obtain ⟨r, hr, hp⟩ := a
    have hr : Value.pointer (some ⟨g, 0, none⟩) = r := Option.some.inj hr
    subst hr
    have hp : Value.pointer (some ⟨g, 0, none⟩) = _ := Option.some.inj hp
    rw [← hp]
    have hc : _ = Value.int .i64 n := c
    rw [hc]
 have hlt : g < w.heap.size := (Array.getElem?_eq_some_iff.1 hg).1
 refine (Grow_w g n w hg h0 (by omega)).mono fun e w' ⟨cs, hcs, he, hw⟩ => ?_
 subst he
 have z1 : (w.setCell ⟨g, 0, none⟩ (.pointer (some ⟨g, 0, none⟩))).heap.size = w.heap.size := by unfold World.setCell; simp
 have g1 : (w.setCell ⟨g, 0, none⟩ (.pointer (some ⟨g, 0, none⟩))).heap[g]? = some (.cells #[.pointer (some ⟨g, 0, none⟩), .slice none 0 0] 242 (0, 0)) := by
  unfold World.setCell
  simp only [Array.getElem?_modify, if_true, hg]; rfl
 have o1 : ∀ j, j ≠ g → (w.setCell ⟨g, 0, none⟩ (.pointer (some ⟨g, 0, none⟩))).heap[j]? = w.heap[j]? := fun j hj => by
  unfold World.setCell
  simp only [Array.getElem?_modify]
  rw [if_neg (by omega)]
 generalize hW1 : w.setCell ⟨g, 0, none⟩ (.pointer (some ⟨g, 0, none⟩)) = W1 at *
 have z2 : (W1.drew.setCell ⟨g, 1, none⟩ (.slice (some ⟨w.heap.size, 0, none⟩) 0 cs.size)).heap.size = w.heap.size := by unfold World.setCell; simp only [Array.size_modify]; exact z1
 have g2 : (W1.drew.setCell ⟨g, 1, none⟩ (.slice (some ⟨w.heap.size, 0, none⟩) 0 cs.size)).heap[g]? = some (.cells #[.pointer (some ⟨g, 0, none⟩), .slice (some ⟨w.heap.size, 0, none⟩) 0 cs.size] 242 (0, 0)) := by
  unfold World.setCell
  have : W1.drew.heap[g]? = _ := g1
  simp only [Array.getElem?_modify, if_true, this]; rfl
 have o2 : ∀ j, j ≠ g → (W1.drew.setCell ⟨g, 1, none⟩ (.slice (some ⟨w.heap.size, 0, none⟩) 0 cs.size)).heap[j]? = w.heap[j]? := fun j hj => by
  unfold World.setCell
  simp only [Array.getElem?_modify]
  rw [if_neg (by omega)]
  exact o1 j hj
 have hos : w'.os = w.os ∧ w'.tape = w.tape ∧ w'.output = w.output := by subst hw hW1; exact ⟨rfl, rfl, rfl⟩
 have hz : W1.drew.heap.size = w.heap.size := z1
 unfold grewW at hw
 rw [hz] at hw
 generalize W1.drew.setCell ⟨g, 1, none⟩ (.slice (some ⟨w.heap.size, 0, none⟩) 0 cs.size) = W2 at *
 have hh : w'.heap = (W2.alloc (.cells cs 5)).heap := by rw [hw]; rfl
 have hG : w'.heap[g]? = some (.cells #[.pointer (some ⟨g, 0, none⟩), .slice (some ⟨w.heap.size, 0, none⟩) 0 cs.size] 242 (0, 0)) := by
  rw [hh, Lib.alloc_old W2 _ g (by omega)]; exact g2
 have hN : w'.heap[w.heap.size]? = some (.cells cs 5 (0, 0)) := by
  rw [hh, ← z2]; exact heap_alloc_new W2 _
 have hO : ∀ j, j < w.heap.size → j ≠ g → w'.heap[j]? = w.heap[j]? := fun j hj hne => by
  rw [hh, Lib.alloc_old W2 _ j (by omega)]; exact o2 j hne
 have hA : (w.alloc (.cells cs 5)).heap.size = w.heap.size + 1 := by simp
 have hS : w'.heap.size = w.heap.size + 1 := by
  have : (W2.alloc (.cells cs 5)).heap.size = W2.heap.size + 1 := by simp
  rw [hh, this, z2]
 have s1 := hs.grew (World.grownBy_alloc w (.cells cs 5) none) (fun g e => by cases e)
 have s2 := s1.adopt (s := rB []) (r := .slice (some ⟨w.heap.size, 0, none⟩) 0 cs.size)
  ⟨rfl, .inr ⟨w.heap.size, 0, cs.size, cs, rfl, heap_alloc_new w _, Nat.zero_le _, hcs, by omega, rfl⟩⟩
  (fun g2 hg2 => by
   have e : g2 = w.heap.size := by simp [SB.blk, rB, Value.ownBlock] at hg2; exact hg2.symm
   subst e
   exact ⟨.inl hs.size, hs.fresh, fun k hk => absurd (hs.lt hk) (Nat.lt_irrefl _)⟩)
 have s3 := s2.turn (k := 0) (s' := bB true (.self 1)) rfl rfl (g := g) rfl (w' := w') hos.1 hos.2.1 hos.2.2 (by rw [hS, hA]; exact Nat.le_refl _) (fun j hj hne => by
  rw [hA] at hj
  rcases Nat.lt_or_eq_of_le (Nat.le_of_lt_succ hj) with h | h
  ·rw [hO j h hne, Lib.alloc_old w _ j h]
  ·subst h; rw [hN, heap_alloc_new]) ⟨g, [.pointer (some ⟨g, 0, none⟩), .slice (some ⟨w.heap.size, 0, none⟩) 0 cs.size], rfl, hG, .cons ⟨_, rfl, rfl⟩ (.cons rfl .nil)⟩ (.inl rfl)
 exact ⟨.tu [], _, H, _, s3, Pre.append _ _, ⟨[], rfl, .nil⟩, .refl _, rfl, rfl, rfl⟩
end Go.Kx.Bu
namespace Go.Kx.Tu
open Go.Proofs Go.Kx Go.RowKit Go.Kx.Bu
set_option maxRecDepth 20000
set_option linter.unusedSimpArgs false
namespace Pa
def T : Tab := [(5, { k := TK.int IntKind.u8, agg := false, size := 1, bytes := 1, zero := [Z.i IntKind.u8] }), (94, { k := TK.slice 5, agg := false, size := 1, bytes := 24, zero := [Z.sl] }), (177, { k := TK.st [(0, 4, 1), (1, 3, 1), (2, 9, 1)], agg := true, size := 3, bytes := 32, zero := [Z.b, Z.i IntKind.i64, Z.s] }), (239, { k := TK.slice 177, agg := false, size := 1, bytes := 24, zero := [Z.sl] }), (9, { k := TK.string, agg := false, size := 1, bytes := 16, zero := [Z.s] }), (4, { k := TK.bool, agg := false, size := 1, bytes := 1, zero := [Z.b] }), (3, { k := TK.int IntKind.i64, agg := false, size := 1, bytes := 8, zero := [Z.i IntKind.i64] }), (242, { k := TK.st [(0, 240, 1), (1, 94, 1)], agg := true, size := 2, bytes := 32, zero := [Z.p, Z.sl] }), (304, { k := TK.int IntKind.u64, agg := false, size := 1, bytes := 8, zero := [Z.i IntKind.u64] }), (284, { k := TK.int IntKind.u64, agg := false, size := 1, bytes := 8, zero := [Z.i IntKind.u64] }), (21, { k := TK.int IntKind.i32, agg := false, size := 1, bytes := 4, zero := [Z.i IntKind.i32] }), (240, { k := TK.ptr 242, agg := false, size := 1, bytes := 8, zero := [Z.p] })]
set_option maxRecDepth 100000 in
theorem tab : TabOk Tryz.prog T := tabOk_mk (ts := [5, 94, 177, 239, 9, 4, 3, 242, 304, 284, 21, 240]) (by kernel_rfl)
end Pa
theorem count_ (s : ByteArray) (c : UInt8) (H : Hp) : CallO Tryz.prog 339 [pv (.string s), pv (.string ⟨#[c]⟩)] H [] fun e H' G' => e = .ret (pv (.int .i64 (s.data.toList.count c : Int))) ∧ H' = H ∧ G' = [] := by
 refine (CallO.of_calls (P := Tryz.prog) (args := [.string s, .string ⟨#[c]⟩]) (R := fun v => v = .int .i64 (s.data.toList.count c : Int)) fun w _ _ => (Any.strings_Count_one Tryz.laysCount s c w).mono ?_).mono ?_
 ·rintro e w' ⟨rfl, rfl⟩
  exact ⟨_, rfl, rfl, grown_refl _⟩
 ·rintro e H' G' hle ⟨v, rfl, rfl, rfl, rfl⟩
  exact ⟨rfl, rfl, rfl⟩
theorem index_ (s : ByteArray) (c : UInt8) (H : Hp) : CallO Tryz.prog 341 [pv (.string s), pv (.string ⟨#[c]⟩)] H [] fun e H' G' => e = .ret (pv (.int .i64 (Lib.indexByte s.data.toList c))) ∧ H' = H ∧ G' = [] := by
 refine (CallO.of_calls (P := Tryz.prog) (args := [.string s, .string ⟨#[c]⟩]) (R := fun v => v = .int .i64 (Lib.indexByte s.data.toList c)) fun w _ _ => (Any.strings_Index_one Tryz.laysIndex s c w).mono ?_).mono ?_
 ·rintro e w' ⟨rfl, rfl⟩
  exact ⟨_, rfl, rfl, grown_refl _⟩
 ·rintro e H' G' hle ⟨v, rfl, rfl, rfl, rfl⟩
  exact ⟨rfl, rfl, rfl⟩
theorem esc_append : ∀ a b : List UInt8, esc (a ++ b) = esc a ++ esc b
 | [], _ => rfl
 | c :: a, b => by
  have ih := esc_append a b
  rw [List.cons_append]
  show (if c = 0 then 0 :: 255 :: esc (a ++ b) else c :: esc (a ++ b)) = (if c = 0 then 0 :: 255 :: esc a else c :: esc a) ++ esc b
  rw [ih]
  split <;> rfl
theorem next_zero {l : List UInt8} (h : 0 < l.count 0) : ∃ k : Nat, Lib.indexByte l 0 = k ∧ k < l.length ∧ l.take (k + 1) = l.take k ++ [0] ∧ (∀ c ∈ l.take k, c ≠ 0) ∧ (l.drop (k + 1)).count 0 + 1 = l.count 0 := by
 have hge := Lib.indexByte_ge l 0
 have hne : Lib.indexByte l 0 ≠ -1 := fun e => by
  have := Lib.indexByte_none e
  obtain ⟨i, hi, e2⟩ := List.getElem_of_mem (List.count_pos_iff.1 h)
  exact this i (by rw [List.getElem?_eq_getElem hi, e2])
 obtain ⟨k, hk⟩ : ∃ k : Nat, Lib.indexByte l 0 = k := ⟨(Lib.indexByte l 0).toNat, by omega⟩
 obtain ⟨h1, h2⟩ := Lib.indexByte_some hk
 have hlt := (List.getElem?_eq_some_iff.1 h1).1
 have ht : l.take (k + 1) = l.take k ++ [0] := by rw [List.take_add_one, h1]; rfl
 have hno : ∀ c ∈ l.take k, c ≠ 0 := fun c hc e => by
  subst e
  obtain ⟨i, hi, e2⟩ := List.getElem_of_mem hc
  rw [List.length_take] at hi
  rw [List.getElem_take] at e2
  exact h2 i (by omega) (by rw [List.getElem?_eq_getElem (by omega), e2])
 refine ⟨k, hk, hlt, ht, hno, ?_⟩
 have hc : l.count 0 = (l.take (k + 1)).count 0 + (l.drop (k + 1)).count 0 := by rw [← List.count_append, List.take_append_drop]
 have h0 : (l.take k).count 0 = 0 := List.count_eq_zero.2 fun hm => hno 0 hm rfl
 rw [hc, ht, List.count_append, h0]
 simp
 omega
theorem ext_list (s : ByteArray) (a b : Nat) : (s.extract a b).data.toList = (s.data.toList.drop a).take (b - a) := by
 have := Lib.extract_mk s.data.toList a b
 have e : (⟨s.data.toList.toArray⟩ : ByteArray) = s := by simp
 rw [e] at this
 rw [this]
theorem ext_str (s : ByteArray) (a b : Nat) : s.extract a b = strOf ((s.data.toList.drop a).take (b - a)) := by
 unfold strOf
 rw [← ext_list]
theorem esc_count (l : List UInt8) : (esc l).length = l.length + l.count 0 := by
 induction l with
 | nil => rfl
 | cons c r ih =>
  unfold esc
  rw [List.count_cons]
  split
  ·rename_i h; subst h; simp; omega
  ·rename_i h
   rw [List.length_cons, List.length_cons, ih, if_neg (by simpa using h)]
   omega
theorem replace_ (s : ByteArray) (hs : s.size ≤ 100000) (H : Hp) : CallO Tryz.prog 295 [pv (.string s), pv (.string ⟨#[0]⟩), pv (.string ⟨#[0, 255]⟩), pv (.int .i64 (-1))] H [] fun e H' G' => e = .ret (pv (.string (strOf (esc s.data.toList)))) ∧ H.Le H' ∧ G' = [] := by
 have hL : s.data.toList.length = s.size := by rw [Array.length_toList]; rfl
 have hs0 : strOf s.data.toList = s := by unfold strOf; simp
 refine CallO.of_body tab Tryz.func295 rfl (nt := Tryz.f295.ntmps) rfl (by kernel_rfl) ?_
 (conv => whnf)
 refine ⟨⟨_, Tryz.func339, rfl, by kernel_rfl⟩, CallS.use (count_ s 0 H) [] rfl rfl trivial ?_⟩
 rintro e H2 G' hle2 ⟨rfl, rfl, rfl⟩
 (conv => whnf)
 have hcl : s.data.toList.count 0 ≤ s.data.toList.length := List.count_le_length
 by_cases h0 : s.data.toList.count 0 = 0
 ·have e1 : (((s.data.toList.count 0 : Nat) : Int) == 0) = true := by rw [h0]; rfl
  rw [e1]
  (conv => whnf)
  have : esc s.data.toList = s.data.toList := esc_plain fun c hc e => by
   subst e
   have := List.count_pos_iff.2 hc
   omega
  rw [this, hs0]
  exact ⟨rfl, .refl _, rfl⟩
 ·have e1 : (((s.data.toList.count 0 : Nat) : Int) == 0) = false := decide_eq_false (by omega)
  rw [e1]
  (conv => whnf)
  have hwr := fun H bs x (h1 : bs.length ≤ 10000000) (h2 : x.size ≤ 10000000) => writeString true bs x h1 h2 H
  have ew : ((ByteArray.size ⟨#[0, 255]⟩ : Nat) : Int) - ((ByteArray.size ⟨#[0]⟩ : Nat) : Int) = 1 := by decide
  have e2 : IntKind.i64.wrap ((s.size : Int) + IntKind.i64.wrap (((s.data.toList.count 0 : Nat) : Int) * IntKind.i64.wrap (((ByteArray.size ⟨#[0, 255]⟩ : Nat) : Int) - ((ByteArray.size ⟨#[0]⟩ : Nat) : Int)))) = ((s.size + s.data.toList.count 0 : Nat) : Int) := by
   rw [ew, wrap64 (x := 1) (by decide) (by decide), wrap64 (x := ((s.data.toList.count 0 : Nat) : Int) * 1) (by omega) (by omega), wrap64 (by omega) (by omega)]; omega
  rw [e2]
  refine ⟨⟨_, Tryz.func340, rfl, by kernel_rfl⟩, CallS.use (Grow_ (s.size + s.data.toList.count 0) (by omega) (by omega) H2) [0] rfl rfl ⟨rfl, trivial⟩ ?_⟩
  rintro e H3 G' hle3 ⟨rfl, rfl, rfl⟩
  (conv => whnf)
  generalize hm : s.data.toList.count 0 = m at *
  refine WS.loop (fun k' F H4 G => ∃ (i p : Nat), i ≤ m ∧ p ≤ s.size ∧ (s.data.toList.drop p).count 0 = m - i ∧ k' = m - i ∧ F = [(0, pv (.string s)), (1, pv (.string ⟨#[0]⟩)), (2, pv (.string ⟨#[0, 255]⟩)), (10, .si (.ce (.ptr 0 0))), (11, pv (.int .i64 p)), (52, pv (.int .i64 m)), (53, pv (.int .i64 i))] ∧ H3.Le H4 ∧ G = [bB true (.self 1), rB (esc (s.data.toList.take p))]) (m + 1) ?_ ?_
  ·refine ⟨m, by omega, _, _, [0, 1], ⟨0, 0, by omega, by omega, hm, rfl, rfl, .refl _, rfl⟩, ?_⟩
   exact ⟨rfl, ⟨rfl, rfl, trivial⟩, rfl, rfl, rfl, rfl, rfl, rfl, rfl, trivial⟩
  rintro k' F H4 G hle4 ⟨i, p, hi, hp, hc, rfl, rfl, hle, rfl⟩
  refine codeL.go Pa.tab ?_
  (conv => whnf)
  refine br.of (fun h1 => ?_) (fun h1 => ?_) <;> (conv => whnf)
  ·have h1 := of_decide_eq_true h1
   obtain ⟨k, hk, hkl, hkt, hkn, hkc⟩ := next_zero (l := s.data.toList.drop p) (by omega)
   have hdl : (s.data.toList.drop p).length = s.size - p := by rw [List.length_drop, hL]
   have hx : (s.extract (p : Int).toNat s.size).data.toList = s.data.toList.drop p := by
    rw [Int.toNat_natCast, ext_list]
    exact List.take_of_length_le (by omega)
   have hix := index_ (s.extract (p : Int).toNat s.size) 0
   rw [hx, hk] at hix
   refine ⟨⟨by omega, by omega⟩, ?_⟩
   (conv => whnf)
   refine ⟨⟨_, Tryz.func341, rfl, by kernel_rfl⟩, CallS.use (hix H4) [] rfl rfl trivial ?_⟩
   rintro e H5 G' hle5 ⟨rfl, rfl, rfl⟩
   (conv => whnf)
   have e3 : IntKind.i64.wrap ((p : Int) + k) = ((p + k : Nat) : Int) := by rw [wrap64 (by omega) (by omega)]; omega
   rw [e3]
   refine ⟨⟨by omega, by omega, by omega⟩, ?_⟩
   (conv => whnf)
   have hes := esc_count (s.data.toList.take p)
   have hct : (s.data.toList.take p).count 0 ≤ (s.data.toList.take p).length := List.count_le_length
   have htl : (s.data.toList.take p).length ≤ p := by rw [List.length_take]; omega
   have hy : (s.extract (p : Int).toNat ((p + k : Nat) : Int).toNat).data.toList = (s.data.toList.drop p).take k := by
    rw [Int.toNat_natCast, Int.toNat_natCast, ext_list, Nat.add_sub_cancel_left]
   have hys : (s.extract (p : Int).toNat ((p + k : Nat) : Int).toNat).size ≤ 100000 := by
    have : (s.extract (p : Int).toNat ((p + k : Nat) : Int).toNat).size = ((s.data.toList.drop p).take k).length := by rw [← hy, Array.length_toList]; rfl
    rw [this, List.length_take]
    omega
   have hyl : ((s.data.toList.drop p).take k).length = k := by rw [List.length_take]; omega
   refine ⟨⟨_, Tryz.func167, rfl, by kernel_rfl⟩, CallS.use (hwr H5 (esc (s.data.toList.take p)) _ (by omega) (by omega)) [0, 1] rfl rfl ⟨rfl, rfl, trivial⟩ ?_⟩
   rw [hy]
   rintro e H6 G' hle6 ⟨rfl, hle6', rfl⟩
   (conv => whnf)
   refine ⟨⟨_, Tryz.func167, rfl, by kernel_rfl⟩, CallS.use (hwr H6 (esc (s.data.toList.take p) ++ (s.data.toList.drop p).take k) ⟨#[0, 255]⟩ (by rw [List.length_append]; omega) (by decide)) [0, 2] rfl rfl ⟨rfl, rfl, trivial⟩ ?_⟩
   rintro e H7 G' hle7 ⟨rfl, hle7', rfl⟩
   (conv => whnf)
   have e4 : IntKind.i64.wrap (((p + k : Nat) : Int) + ((ByteArray.size ⟨#[0]⟩ : Nat) : Int)) = ((p + k + 1 : Nat) : Int) := by
    rw [show ((ByteArray.size ⟨#[0]⟩ : Nat) : Int) = 1 by decide, wrap64 (by omega) (by omega)]; omega
   rw [e4, wrap64 (x := (i : Int) + 1) (by omega) (by omega)]
   have hdd : (s.data.toList.drop (p + k + 1)).count 0 = m - (i + 1) := by
    rw [Nat.add_assoc, ← List.drop_drop]
    omega
   have htt : esc (s.data.toList.take (p + k + 1)) = esc (s.data.toList.take p) ++ (s.data.toList.drop p).take k ++ [0, 255] := by
    have e5 : s.data.toList.take (p + k + 1) = s.data.toList.take p ++ (s.data.toList.drop p).take (k + 1) := by
     rw [Nat.add_assoc, List.take_add]
    rw [e5, hkt, esc_append, esc_append, esc_plain hkn, List.append_assoc]
    rfl
   refine ⟨m - (i + 1), by omega, _, [bB true (.self 1), rB (esc (s.data.toList.take (p + k + 1)))], [0, 3], ⟨i + 1, p + k + 1, by omega, by omega, hdd, rfl, rfl, hle.trans ((hle5.trans hle6).trans hle7), rfl⟩, ?_⟩
   refine ⟨rfl, ⟨rfl, ?_, trivial⟩, rfl, rfl, rfl, rfl, rfl, rfl, rfl, trivial⟩
   rw [htt]
   exact rfl
  ·have h1 := of_decide_eq_false h1
   obtain rfl : i = m := by omega
   have hnz : ∀ c ∈ s.data.toList.drop p, c ≠ 0 := fun c hcm e => by
    subst e
    have := List.count_pos_iff.2 hcm
    omega
   have hx : (s.extract (p : Int).toNat s.size).data.toList = s.data.toList.drop p := by
    rw [Int.toNat_natCast, ext_list]
    exact List.take_of_length_le (by rw [List.length_drop, hL]; exact Nat.le_refl _)
   have hxs : (s.extract (p : Int).toNat s.size).size ≤ 100000 := by
    have : (s.extract (p : Int).toNat s.size).size = (s.data.toList.drop p).length := by rw [← hx, Array.length_toList]; rfl
    rw [this, List.length_drop]
    omega
   have hes := esc_count (s.data.toList.take p)
   have hct : (s.data.toList.take p).count 0 ≤ (s.data.toList.take p).length := List.count_le_length
   have htl : (s.data.toList.take p).length ≤ p := by rw [List.length_take]; omega
   have hall : esc (s.data.toList.take p) ++ s.data.toList.drop p = esc s.data.toList := by
    conv => rhs; rw [← List.take_append_drop p s.data.toList, esc_append, esc_plain hnz]
   refine ⟨⟨by omega, by omega⟩, ?_⟩
   (conv => whnf)
   refine ⟨⟨_, Tryz.func167, rfl, by kernel_rfl⟩, CallS.use (hwr H4 (esc (s.data.toList.take p)) _ (by omega) (by omega)) [0, 1] rfl rfl ⟨rfl, rfl, trivial⟩ ?_⟩
   rw [hx, hall]
   rintro e H6 G' hle6 ⟨rfl, hle6', rfl⟩
   (conv => whnf)
   have hel : (esc s.data.toList).length ≤ 10000000 := by
    have := esc_len s.data.toList
    omega
   refine ⟨⟨_, Tryz.func169, rfl, by kernel_rfl⟩, CallS.use (string_ true (esc s.data.toList) hel H6) [0, 2] rfl rfl ⟨rfl, rfl, trivial⟩ ?_⟩
   rintro e H7 G' hle7 ⟨rfl, rfl, rfl | rfl⟩
   ·(conv => whnf)
    exact ⟨rfl, hle2.trans (hle3.trans (hle.trans hle6)), rfl⟩
   ·(conv => whnf)
    exact ⟨rfl, hle2.trans (hle3.trans (hle.trans hle6)), rfl⟩
end Go.Kx.Tu
namespace Go.Kx.Tu
open Go.Proofs Go.Kx Go.RowKit Go.Kx.Bu
set_option maxRecDepth 20000
set_option linter.unusedSimpArgs false
inductive Pt
 | txt (s : ByteArray)
 | num (n : Int)
def ptV : Pt → List Value
 | .txt s => [.bool false, .int .i64 0, .string s]
 | .num n => [.bool true, .int .i64 n, .string ⟨#[]⟩]
def ptC : Pt → List SC
 | .txt s => [.val (.bool false), .val (.int .i64 0), .val (.string s)]
 | .num n => [.val (.bool true), .val (.int .i64 n), .val (.string ⟨#[]⟩)]
def ptB : Pt → List UInt8
 | .txt s => textB s.data.toList
 | .num n => numB (n + 9223372036854775808).toNat
def PtOk : Pt → Prop
 | .txt s => s.size ≤ 100000
 | .num n => -9223372036854775808 ≤ n ∧ n < 9223372036854775808
theorem replaceAll_ (s : ByteArray) (hs : s.size ≤ 100000) (H : Hp) : CallO Tryz.prog 230 [pv (.string s), pv (.string ⟨#[0]⟩), pv (.string ⟨#[0, 255]⟩)] H [] fun e H' G' => e = .ret (pv (.string (strOf (esc s.data.toList)))) ∧ H.Le H' ∧ G' = [] := by
 refine CallO.of_body Pa.tab Tryz.func230 rfl (nt := Tryz.f230.ntmps) rfl (by kernel_rfl) ?_
 (conv => whnf)
 refine ⟨⟨_, Tryz.func295, rfl, by kernel_rfl⟩, CallS.use (replace_ s hs H) [] rfl rfl trivial ?_⟩
 rintro e H2 G' hle2 ⟨rfl, hle, rfl⟩
 (conv => whnf)
 exact ⟨rfl, hle, rfl⟩
theorem be8_get (z : Nat) : ∀ j, j < 8 → (be8 z).getD j 0 = UInt8.ofNat (z / 2 ^ (8 * (7 - j)))
 | 0, _ => rfl
 | 1, _ => rfl
 | 2, _ => rfl
 | 3, _ => rfl
 | 4, _ => rfl
 | 5, _ => rfl
 | 6, _ => rfl
 | 7, _ => by show UInt8.ofNat z = UInt8.ofNat (z / 1); rw [Nat.div_one]
 | n + 8, h => by omega
theorem str_app (a b : List UInt8) : strOf a ++ strOf b = strOf (a ++ b) := by
 refine bytes_ext ?_
 unfold strOf
 simp [ByteArray.data_append]
theorem str_len (l : List UInt8) : (strOf l).size = l.length := by show l.toArray.size = _; rw [List.size_toArray]
theorem part_ (p : Pt) (hp : PtOk p) (H : Hp) : CallO Tryz.prog 168 [.si (.ag (ptC p))] H [] fun e H' G' => e = .ret (pv (.string (strOf (ptB p)))) ∧ H.Le H' ∧ G' = [] := by
 cases p with
 | txt s =>
  refine CallO.of_body Pa.tab Tryz.func168 rfl (nt := Tryz.f168.ntmps) rfl (by kernel_rfl) ?_
  (conv => whnf)
  refine ⟨⟨_, Tryz.func230, rfl, by kernel_rfl⟩, CallS.use (replaceAll_ s hp H) [] rfl rfl trivial ?_⟩
  rintro e H2 G' hle2 ⟨rfl, hle, rfl⟩
  (conv => whnf)
  have hl : s.data.toList.length = s.size := by rw [Array.length_toList]; rfl
  have hp : s.size ≤ 100000 := hp
  have he := esc_len s.data.toList
  refine ⟨by rw [str_len]; show 1 + _ ≤ _; omega, ?_⟩
  (conv => whnf)
  have e1 : (⟨#[1]⟩ : ByteArray) ++ strOf (esc s.data.toList) = strOf (1 :: esc s.data.toList) := str_app [1] _
  rw [e1]
  refine ⟨by rw [str_len]; show (_ + 1) + 2 ≤ _; omega, ?_⟩
  (conv => whnf)
  have e2 : strOf (1 :: esc s.data.toList) ++ (⟨#[0, 0]⟩ : ByteArray) = strOf (ptB (.txt s)) := str_app (1 :: esc s.data.toList) [0, 0]
  rw [e2]
  exact ⟨rfl, hle, rfl⟩
 | num n =>
  refine CallO.of_body Pa.tab Tryz.func168 rfl (nt := Tryz.f168.ntmps) rfl (by kernel_rfl) ?_
  (conv => whnf)
  refine ⟨by decide, .inl ?_⟩
  intro g H2 hle2 hrd
  (conv => whnf)
  obtain ⟨n1, n2⟩ := hp
  have ez : IntKind.u64.wrap (IntKind.u64.wrap n + 9223372036854775808) = (((n + 9223372036854775808).toNat : Nat) : Int) := by
   simp only [IntKind.wrap, IntKind.bits, IntKind.signed]; simp; omega
  rw [ez]
  generalize hz : (n + 9223372036854775808).toNat = z
  have hzb : ptB (.num n) = 2 :: be8 z := by rw [← hz]; rfl
  rw [hzb]
  have hpw : ∀ k : Nat, ((z : Nat) : Int) / 2 ^ k = ((z / 2 ^ k : Nat) : Int) := fun k => by rw [Int.natCast_ediv, Int.natCast_pow]; rfl
  have hby : ∀ (j : Nat) (x : Int), j < 8 → x = 7 - (j : Int) → IntKind.u8.wrap (((z : Nat) : Int).fdiv (2 ^ min (Int.toNat (IntKind.i64.wrap (8 * x))) IntKind.u64.bits)) = (((be8 z).getD j 0).toNat : Int) := fun j x hj hx => by
   subst hx
   rw [wrap64 (by omega) (by omega), show Int.toNat (8 * (7 - (j : Int))) = 8 * (7 - j) by omega, show min (8 * (7 - j)) IntKind.u64.bits = 8 * (7 - j) from Nat.min_eq_left (by show _ ≤ 64; omega), Int.fdiv_eq_ediv_of_nonneg _ (by exact Int.le_of_lt (Int.pow_pos (by decide))), hpw, be8_get z j hj, Cr.w8]
  refine WS.loop (fun k' F H4 G => ∃ j : Nat, j ≤ 8 ∧ k' = 8 - j ∧ H2.Le H4 ∧ ((j = 0 ∧ F = [(3, pv (.int .u64 z)), (4, pv (.slice (some ⟨g, 0, none⟩) 1 1)), (5, pv (.int .i64 7))] ∧ G = []) ∨ (1 ≤ j ∧ F = [(3, pv (.int .u64 z)), (4, .si (.ce (.self 0))), (5, pv (.int .i64 (7 - (j : Int))))] ∧ G = [.row 5 1 (1 + j) (bCells (2 :: (be8 z).take j))]))) 9 ?_ ?_
  ·refine ⟨8, by omega, _, _, [], ⟨0, by omega, rfl, .refl _, .inl ⟨rfl, rfl, rfl⟩⟩, ?_⟩
   exact ⟨rfl, trivial, rfl, rfl, rfl, trivial⟩
  rintro k' F H4 G hle4 ⟨j, hj, rfl, hle, hF⟩
  rcases hF with ⟨rfl, rfl, rfl⟩ | ⟨hj1, rfl, rfl⟩
  ·refine codeL.go Pa.tab ?_
   (conv => whnf)
   refine ⟨by decide, ?_⟩
   (conv => whnf)
   rw [hby 0 7 (by decide) rfl]
   refine ⟨by decide, .inl ?_⟩
   intro g3 H5 hle5 hrd5
   (conv => whnf)
   refine ⟨_, rfl, hrd5, one_int _ _, fun h => absurd h (by decide), fun _ => ⟨rfl, [.int .u8 2], rfl, hrd.mono (hle.trans hle5), by decide, ?_⟩⟩
   (conv => whnf)
   have e7 : IntKind.i64.wrap (7 - 1) = 7 - ((1 : Nat) : Int) := by decide
   rw [e7]
   refine ⟨7, by decide, _, [.row 5 1 (1 + 1) (bCells (2 :: (be8 z).take 1))], [0], ⟨1, by decide, rfl, hle.trans hle5, .inr ⟨by decide, rfl, rfl⟩⟩, ?_⟩
   exact ⟨rfl, ⟨rfl, trivial⟩, rfl, rfl, rfl, trivial⟩
  ·refine codeL.go Pa.tab ?_
   (conv => whnf)
   refine br.of (fun h1 => ?_) (fun h1 => ?_) <;> (conv => whnf)
   ·have h1 := of_decide_eq_true h1
    refine ⟨by rw [wrap64 (by omega) (by omega)]; omega, ?_⟩
    (conv => whnf)
    rw [hby j _ (by omega) rfl]
    refine ⟨by decide, .inl ?_⟩
    intro g3 H5 hle5 hrd5
    (conv => whnf)
    refine ⟨_, rfl, hrd5, one_int _ _, ?_⟩
    (conv => whnf)
    refine ⟨by show (1 + j + 1) * 2 ≤ 140737488355328; omega, ?_⟩
    (conv => whnf)
    have e7 : IntKind.i64.wrap (7 - (j : Int) - 1) = 7 - ((j + 1 : Nat) : Int) := by rw [wrap64 (by omega) (by omega)]; omega
    rw [e7]
    refine ⟨8 - (j + 1), by omega, _, [.row 5 1 (1 + (j + 1)) (bCells (2 :: (be8 z).take (j + 1)))], [1], ⟨j + 1, by omega, rfl, hle.trans hle5, .inr ⟨by omega, rfl, rfl⟩⟩, ?_⟩
    refine ⟨rfl, ⟨?_, trivial⟩, rfl, rfl, rfl, trivial⟩
    have hlen : (be8 z).length = 8 := rfl
    have hrow : SB.row 5 1 (1 + (j + 1)) (bCells (2 :: (be8 z).take (j + 1))) = .row 5 1 (1 + j + 1) (bCells (2 :: (be8 z).take j) ++ [.int .u8 (((be8 z).getD j 0).toNat : Int)]) := by
     rw [bCells_snoc _ _ rfl, List.take_add_one, List.getElem?_eq_getElem (by omega), List.getD_eq_getElem?_getD, List.getElem?_eq_getElem (by omega)]
     rfl
    rw [hrow]
    exact rfl
   ·have h1 := of_decide_eq_false h1
    obtain rfl : j = 8 := by omega
    refine ⟨strOf (2 :: be8 z), cells_str _, ?_⟩
    (conv => whnf)
    exact ⟨rfl, hle2.trans hle, rfl⟩
end Go.Kx.Tu
namespace Go.Kx.Tu
open Go.Proofs Go.Kx Go.RowKit Go.Kx.Bu
set_option maxRecDepth 20000
set_option linter.unusedSimpArgs false
def ptsC (ps : List Pt) : List Value := ps.flatMap ptV
def keyB (ps : List Pt) : List UInt8 := ps.flatMap ptB
theorem ptV_len (p : Pt) : (ptV p).length = 3 := by cases p <;> rfl
theorem ptsC_get : ∀ {ps : List Pt} {i : Nat} {q : Pt}, ps[i]? = some q → ∀ (j : Nat) (v : Value), (ptV q)[j]? = some v → (ptsC ps)[i * 3 + j]? = some v
 | y :: ps, 0, q, h, j, v, hv => by
  simp at h; subst h
  have hj : j < 3 := by have := (List.getElem?_eq_some_iff.1 hv).1; rwa [ptV_len] at this
  show (ptV y ++ ptsC ps)[0 * 3 + j]? = _
  rw [List.getElem?_append_left (by rw [ptV_len]; omega), Nat.zero_mul, Nat.zero_add]; exact hv
 | y :: ps, i + 1, q, h, j, v, hv => by
  show (ptV y ++ ptsC ps)[(i + 1) * 3 + j]? = _
  rw [List.getElem?_append_right (by rw [ptV_len]; omega)]
  have : (i + 1) * 3 + j - (ptV y).length = i * 3 + j := by rw [ptV_len]; omega
  rw [this]
  exact ptsC_get (ps := ps) (by simpa using h) j v hv
theorem keyB_take {ps : List Pt} {i : Nat} {p : Pt} (hi : ps[i]? = some p) : keyB (ps.take i) ++ ptB p = keyB (ps.take (i + 1)) := by
 unfold keyB
 rw [List.take_add_one, hi, List.flatMap_append]
 simp
theorem ptB_len {p : Pt} (h : PtOk p) : (ptB p).length ≤ 300000 := by
 cases p with
 | txt s =>
  have h : s.size ≤ 100000 := h
  have h1 := esc_len s.data.toList
  have h2 : s.data.toList.length = s.size := by rw [Array.length_toList]; rfl
  show (textB s.data.toList).length ≤ _
  unfold textB
  rw [List.length_cons, List.length_append]
  simp only [List.length_cons, List.length_nil]
  omega
 | num n => exact Nat.le_trans (Nat.le_of_eq (rfl : _ = 9)) (by decide)
theorem keyB_len {ps : List Pt} (h : ∀ p ∈ ps, PtOk p) : (keyB ps).length ≤ ps.length * 300000 := by
 unfold keyB
 induction ps with
 | nil => exact Nat.zero_le _
 | cons p r ih =>
  rw [List.flatMap_cons, List.length_append, List.length_cons]
  have := ih fun q hq => h q (List.mem_cons_of_mem _ hq)
  have := ptB_len (h p List.mem_cons_self)
  omega
theorem key_ (ps : List Pt) (hok : ∀ p ∈ ps, PtOk p) (hlen : ps.length ≤ 10) (b o cap : Nat) (H : Hp) (hrd : RdN H (some ⟨b, o, none⟩) 0 (ptsC ps)) :
  CallO Tryz.prog 101 [pv (.slice (some ⟨b, o, none⟩) ps.length cap)] H [] fun e H' G' => e = .ret (pv (.string (strOf (keyB ps)))) ∧ H.Le H' ∧ G' = [] := by
 have hmax : ∀ i, (keyB (ps.take i)).length ≤ 3000000 := fun i => by
  have := keyB_len (ps := ps.take i) fun p hp => hok p (List.mem_of_mem_take hp)
  have h2 : (ps.take i).length ≤ 10 := by rw [List.length_take]; omega
  omega
 refine CallO.of_bodyW Pa.tab Tryz.func101 rfl (nt := Tryz.f101.ntmps) rfl (by kernel_rfl) ?_
 refine (codeL.cutTo Pa.tab 2 (fun F H' G => H' = H ∧ F = [(0, pv (.slice (some ⟨b, o, none⟩) ps.length cap)), (3, .si (.ce (.ptr 0 0)))] ∧ G = [.box 242 [.val (.pointer none), .val (.slice none 0 0)]]) ?_ ?_).to
 ·(conv => whnf)
  exact ⟨_, _, [0], ⟨rfl, rfl, rfl⟩, rfl, ⟨rfl, trivial⟩, rfl, rfl, trivial⟩
 rintro F H1 G _ ⟨rfl, rfl, rfl⟩
 refine codeL.nilCell 0 1 5 1 rfl rfl ?_
 refine codeL.go Pa.tab ?_
 (conv => whnf)
 refine WS.loop (fun k' F H4 G => ∃ (i : Nat) (bb : Bool), i ≤ ps.length ∧ k' = ps.length - i ∧ F = [(3, .si (.ce (.ptr 0 0))), (6, pv (.slice (some ⟨b, o, none⟩) ps.length cap)), (7, pv (.int .i64 ps.length)), (8, pv (.int .i64 i))] ∧ H1.Le H4 ∧ G = [bB bb (.self 1), rB (keyB (ps.take i))]) (ps.length + 1) ?_ ?_
 ·refine ⟨ps.length, by omega, _, _, [0, 1], ⟨0, false, by omega, rfl, rfl, .refl _, rfl⟩, ?_⟩
  exact ⟨rfl, ⟨rfl, rfl, trivial⟩, rfl, rfl, rfl, rfl, trivial⟩
 rintro k' F H4 G hle4 ⟨i, bb, hi, rfl, rfl, hle, rfl⟩
 refine codeL.go Pa.tab ?_
 (conv => whnf)
 refine br.of (fun h1 => ?_) (fun h1 => ?_) <;> (conv => whnf)
 ·have h1 := of_decide_eq_true h1
  have hil : i < ps.length := by omega
  have hget : ps[i]? = some ps[i] := List.getElem?_eq_getElem hil
  have hop := hok ps[i] (List.getElem_mem hil)
  generalize ps[i] = p at hget hop
  have hm0 := hmax i
  have hpl := ptB_len hop
  refine ⟨⟨by omega, by omega⟩, ⟨_, _, rfl⟩, ?_⟩
  (conv => whnf)
  refine ⟨ptV p, ptV_len p, ?_, ?_⟩
  ·obtain ⟨_, _, e, hr2⟩ := hrd
   injection e with e; injection e with e1 e2; subst e1 e2
   refine ⟨_, _, rfl, fun j x hx => ?_⟩
   have h9 := hr2 _ _ (ptsC_get hget j x hx)
   have := hle _ _ _ h9
   rw [← this]
   congr 1
   show _ + (i : Int).toNat * 3 + j = _
   omega
  have hpt := part_ p hop
  have hwr := fun H => writeString bb (keyB (ps.take i)) (strOf (ptB p)) (by omega) (by rw [str_len]; omega) H
  have hkt := keyB_take hget
  cases p <;> cases bb
  all_goals
   (conv => whnf)
   refine ⟨⟨_, Tryz.func168, rfl, by kernel_rfl⟩, CallS.use (hpt H4) [] rfl rfl trivial ?_⟩
   rintro e H5 G' hle5 ⟨rfl, hle5', rfl⟩
   (conv => whnf)
   refine ⟨⟨_, Tryz.func167, rfl, by kernel_rfl⟩, CallS.use (hwr H5) [0, 1] rfl rfl ⟨rfl, rfl, trivial⟩ ?_⟩
   rintro e H6 G' hle6 ⟨rfl, hle6', rfl⟩
   (conv => whnf)
   rw [wrap64 (x := (i : Int) + 1) (by omega) (by omega)]
   refine ⟨ps.length - (i + 1), by omega, _, [bB true (.self 1), rB (keyB (ps.take (i + 1)))], [0, 3], ⟨i + 1, true, by omega, rfl, rfl, hle.trans (hle5.trans hle6), rfl⟩, ?_⟩
   refine ⟨rfl, ⟨rfl, ?_, trivial⟩, rfl, rfl, rfl, rfl, trivial⟩
   rw [← hkt]
   exact rfl
 ·have h1 := of_decide_eq_false h1
  obtain rfl : i = ps.length := by omega
  have hm0 := hmax ps.length
  rw [List.take_length] at hm0 ⊢
  cases bb
  ·refine ⟨⟨_, Tryz.func169, rfl, by kernel_rfl⟩, CallS.use (string_ false (keyB ps) (by omega) H4) [0, 1] rfl rfl ⟨rfl, rfl, trivial⟩ ?_⟩
   rintro e H7 G' hle7 ⟨rfl, rfl, rfl | rfl⟩
   ·(conv => whnf)
    exact ⟨rfl, hle, rfl⟩
   ·(conv => whnf)
    exact ⟨rfl, hle, rfl⟩
  ·refine ⟨⟨_, Tryz.func169, rfl, by kernel_rfl⟩, CallS.use (string_ true (keyB ps) (by omega) H4) [0, 1] rfl rfl ⟨rfl, rfl, trivial⟩ ?_⟩
   rintro e H7 G' hle7 ⟨rfl, rfl, rfl | rfl⟩
   ·(conv => whnf)
    exact ⟨rfl, hle, rfl⟩
   ·(conv => whnf)
    exact ⟨rfl, hle, rfl⟩
end Go.Kx.Tu
namespace Go.Kx.Bk
open Go.Proofs Go.Kx Go.RowKit Go.Kx.Wl Go.Kx.Dk Go.Kx.Cr Go.Kx.Wa Go.Kx.Kv Go.Kx.Ka Go.Kx.Tu
set_option maxRecDepth 20000
set_option linter.unusedSimpArgs false
namespace Tb
def T : Tab := [(5, { k := TK.int IntKind.u8, agg := false, size := 1, bytes := 1, zero := [Z.i IntKind.u8] }), (94, { k := TK.slice 5, agg := false, size := 1, bytes := 24, zero := [Z.sl] }), (177, { k := TK.st [(0, 4, 1), (1, 3, 1), (2, 9, 1)], agg := true, size := 3, bytes := 32, zero := [Z.b, Z.i IntKind.i64, Z.s] }), (239, { k := TK.slice 177, agg := false, size := 1, bytes := 24, zero := [Z.sl] }), (9, { k := TK.string, agg := false, size := 1, bytes := 16, zero := [Z.s] }), (4, { k := TK.bool, agg := false, size := 1, bytes := 1, zero := [Z.b] }), (3, { k := TK.int IntKind.i64, agg := false, size := 1, bytes := 8, zero := [Z.i IntKind.i64] }), (105, { k := TK.st [(0, 103, 1), (1, 3, 1)], agg := true, size := 2, bytes := 16, zero := [Z.p, Z.i IntKind.i64] }), (91, { k := TK.st [(0, 87, 1), (1, 3, 1)], agg := true, size := 2, bytes := 16, zero := [Z.p, Z.i IntKind.i64] }), (143, { k := TK.st [(0, 30, 1)], agg := true, size := 1, bytes := 8, zero := [Z.i IntKind.i64] }), (171, { k := TK.st [(0, 87, 1), (1, 156, 1), (2, 161, 1), (3, 3, 1), (4, 4, 1)], agg := true, size := 5, bytes := 56, zero := [Z.p, Z.m, Z.sl, Z.i IntKind.i64, Z.b] }), (158, { k := TK.st [(0, 152, 1), (1, 156, 1), (2, 3, 1)], agg := true, size := 3, bytes := 24, zero := [Z.p, Z.m, Z.i IntKind.i64] }), (30, { k := TK.int IntKind.i64, agg := false, size := 1, bytes := 8, zero := [Z.i IntKind.i64] }), (20, { k := TK.ifc, agg := false, size := 1, bytes := 16, zero := [Z.ifc] }), (149, { k := TK.ifc, agg := false, size := 1, bytes := 16, zero := [Z.ifc] }), (52, { k := TK.st [(0, 9, 1), (1, 9, 1), (2, 4, 1), (3, 3, 1)], agg := true, size := 4, bytes := 48, zero := [Z.s, Z.s, Z.b, Z.i IntKind.i64] }), (25, { k := TK.ptr 96, agg := false, size := 1, bytes := 8, zero := [Z.p] }), (24, { k := TK.ptr 91, agg := false, size := 1, bytes := 8, zero := [Z.p] }), (87, { k := TK.ptr 158, agg := false, size := 1, bytes := 8, zero := [Z.p] }), (56, { k := TK.func, agg := false, size := 1, bytes := 8, zero := [Z.fn] }), (47, { k := TK.ptr 105, agg := false, size := 1, bytes := 8, zero := [Z.p] }), (103, { k := TK.ptr 171, agg := false, size := 1, bytes := 8, zero := [Z.p] }), (1, { k := TK.func, agg := false, size := 1, bytes := 8, zero := [Z.fn] }), (213, { k := TK.st [(0, 5, 1), (1, 9, 1), (2, 94, 1)], agg := true, size := 3, bytes := 48, zero := [Z.i IntKind.u8, Z.s, Z.sl] }), (156, { k := TK.map 9 94, agg := false, size := 1, bytes := 8, zero := [Z.m] }), (161, { k := TK.slice 213, agg := false, size := 1, bytes := 24, zero := [Z.sl] }), (152, { k := TK.ptr 216, agg := false, size := 1, bytes := 8, zero := [Z.p] }), (96, { k := TK.st [(0, 94, 1), (1, 4, 1), (2, 4, 1), (3, 93, 2), (5, 3, 1)], agg := true, size := 6, bytes := 56, zero := [Z.sl, Z.b, Z.b, Z.i IntKind.i64, Z.i IntKind.i64, Z.i IntKind.i64] }), (216, { k := TK.st [(0, 25, 1), (1, 3, 1), (2, 3, 1), (3, 3, 1), (4, 159, 1), (5, 4, 1)], agg := true, size := 6, bytes := 64, zero := [Z.p, Z.i IntKind.i64, Z.i IntKind.i64, Z.i IntKind.i64, Z.sl, Z.b] }), (93, { k := TK.st [(0, 3, 1), (1, 3, 1)], agg := true, size := 2, bytes := 16, zero := [Z.i IntKind.i64, Z.i IntKind.i64] }), (159, { k := TK.slice 94, agg := false, size := 1, bytes := 24, zero := [Z.sl] })]
set_option maxRecDepth 100000 in
theorem tab : TabOk Tryz.prog T := tabOk_mk (ts := [5, 94, 177, 239, 9, 4, 3, 105, 91, 143, 171, 158, 30, 20, 149, 52, 25, 24, 87, 56, 47, 103, 1, 213, 156, 161, 152, 96, 216, 93, 159]) (by kernel_rfl)
theorem mixed : Tryz.prog.follows .mixedOrders = true := by kernel_rfl
end Tb
def pageB (lim : Int) : SB := .box 105 [.ptr 7 0, .val (.int .i64 lim)]
structure Pg where
 d : Dk
 l : Lg
 n : Nat
 f : Value → Option Value
 age : Nat
 n2 : Nat
 f2 : Value → Option Value
 ps : List (Stp × Value)
 cage : Nat
 over : Bool
 lim : Int
def pgG (p : Pg) : List SB := [dataB p.d, diskB p.d, logB p.l, recsB p.l, .map .string p.n p.f, storeB p.age, .map .string p.n2 p.f2, changeB 8 p.cage p.over, stepsB p.ps, pageB p.lim]
def pgH (p : Pg) : List SB := [dataB p.d, diskB p.d, logB p.l, recsB p.l, .map .string p.n p.f, storeB p.age, .map .string p.n2 p.f2, changeB 10 p.cage p.over, .dead, pageB p.lim, stepsB p.ps]
abbrev gP : SV := .si (.ce (.ptr 9 0))
def failV (e : Int) : Value := .iface 143 (.agg #[.int .i64 e])
def failE (e : Int) : List PanicEntry := [⟨failV e, false, false⟩]
def mustE (ok : Bool) (e : Int) : SE := match ok with
 | true => .ret (.tu [])
 | false => .pan (failE e)
theorem fail_ (e : Int) (he : e ≠ 0) (p : Pg) (H : Hp) : CallO Tryz.prog 37 [gP, pv (.int .i64 e)] H (pgG p) fun x H' G' => x = .pan (failE e) ∧ H' = H ∧ G' = pgG p := by
 refine CallO.of_body Tb.tab Tryz.func37 rfl (nt := Tryz.f37.ntmps) rfl (by kernel_rfl) ?_
 (conv => whnf)
 have e1 : (e == 0) = false := by simp; exact he
 rw [e1]
 (conv => whnf)
 exact ⟨rfl, rfl, rfl⟩
theorem must_ (ok : Bool) (e : Int) (he : ok = false → e ≠ 0) (p : Pg) (H : Hp) : CallO Tryz.prog 81 [gP, pv (.bool ok), pv (.int .i64 e)] H (pgG p) fun x H' G' => x = mustE ok e ∧ H' = H ∧ G' = pgG p := by
 refine CallO.of_body Tb.tab Tryz.func81 rfl (nt := Tryz.f81.ntmps) rfl (by kernel_rfl) ?_
 (conv => whnf)
 cases ok
 ·(conv => whnf)
  refine ⟨⟨_, Tryz.func37, rfl, by kernel_rfl⟩, CallS.use (fail_ e (he rfl) p H) [0, 1, 2, 3, 4, 5, 6, 7, 8, 9] rfl rfl ⟨rfl, rfl, rfl, rfl, rfl, rfl, rfl, rfl, rfl, rfl, trivial⟩ ?_⟩
  rintro x H2 G' hle2 ⟨rfl, rfl, rfl⟩
  (conv => whnf)
  exact ⟨rfl, rfl, rfl⟩
 ·(conv => whnf)
  exact ⟨rfl, rfl, rfl⟩
theorem done_ (e : Int) (p : Pg) (H : Hp) : CallO Tryz.prog 82 [gP, pv (.int .i64 e)] H (pgG p) fun x H' G' => x = mustE (e == 0) e ∧ H' = H ∧ G' = pgG p := by
 refine CallO.of_body Tb.tab Tryz.func82 rfl (nt := Tryz.f82.ntmps) rfl (by kernel_rfl) ?_
 (conv => whnf)
 by_cases he : e = 0
 ·subst he
  (conv => whnf)
  refine ⟨⟨_, Tryz.func81, rfl, by kernel_rfl⟩, CallS.use (must_ true 0 (fun h => (nomatch h)) p H) [0, 1, 2, 3, 4, 5, 6, 7, 8, 9] rfl rfl ⟨rfl, rfl, rfl, rfl, rfl, rfl, rfl, rfl, rfl, rfl, trivial⟩ ?_⟩
  rintro x H2 G' hle2 ⟨rfl, rfl, rfl⟩
  (conv => whnf)
  exact ⟨rfl, rfl, rfl⟩
 ·have e1 : (e == 0) = false := by simp; exact he
  rw [e1]
  refine ⟨⟨_, Tryz.func81, rfl, by kernel_rfl⟩, CallS.use (must_ false e (fun _ => he) p H) [0, 1, 2, 3, 4, 5, 6, 7, 8, 9] rfl rfl ⟨rfl, rfl, rfl, rfl, rfl, rfl, rfl, rfl, rfl, rfl, trivial⟩ ?_⟩
  rintro x H2 G' hle2 ⟨rfl, rfl, rfl⟩
  (conv => whnf)
  exact ⟨rfl, rfl, rfl⟩
theorem text_ (s : ByteArray) (H : Hp) : CallO Tryz.prog 102 [pv (.string s)] H [] fun x H' G' => x = .ret (.si (.ag (ptC (.txt s)))) ∧ H' = H ∧ G' = [] := by
 refine CallO.of_body Tb.tab Tryz.func102 rfl (nt := Tryz.f102.ntmps) rfl (by kernel_rfl) ?_
 (conv => whnf)
 exact ⟨rfl, rfl, rfl⟩
def singleK (k s : ByteArray) : ByteArray := strOf (keyB [.txt k, .txt s])
theorem single_ (k s : ByteArray) (hk : k.size ≤ 100000) (hs : s.size ≤ 100000) (H : Hp) : CallO Tryz.prog 52 [pv (.string k), pv (.string s)] H [] fun x H' G' => x = .ret (pv (.string (singleK k s))) ∧ H.Le H' ∧ G' = [] := by
 refine CallO.of_body Tb.tab Tryz.func52 rfl (nt := Tryz.f52.ntmps) rfl (by kernel_rfl) ?_
 (conv => whnf)
 refine ⟨⟨_, Tryz.func102, rfl, by kernel_rfl⟩, CallS.use (text_ k H) [] rfl rfl trivial ?_⟩
 rintro x H2 G' hle2 ⟨rfl, rfl, rfl⟩
 (conv => whnf)
 refine ⟨⟨_, Tryz.func102, rfl, by kernel_rfl⟩, CallS.use (text_ s H2) [] rfl rfl trivial ?_⟩
 rintro x H3 G' hle3 ⟨rfl, rfl, rfl⟩
 (conv => whnf)
 refine ⟨by decide, .inl ?_⟩
 intro g H4 hle4 hrd
 (conv => whnf)
 refine ⟨⟨_, Tryz.func101, rfl, by kernel_rfl⟩, CallS.use (key_ [.txt k, .txt s] (fun p hp => by simp at hp; rcases hp with rfl | rfl <;> assumption) (Nat.le_of_ble_eq_true rfl) g 0 2 H4 hrd) [] rfl rfl trivial ?_⟩
 rintro x H5 G' hle5 ⟨rfl, hle5', rfl⟩
 (conv => whnf)
 exact ⟨rfl, hle4.trans hle5, rfl⟩
theorem num_ (n : Int) (H : Hp) : CallO Tryz.prog 103 [pv (.int .i64 n)] H [] fun x H' G' => x = .ret (.si (.ag (ptC (.num n)))) ∧ H' = H ∧ G' = [] := by
 refine CallO.of_body Tb.tab Tryz.func103 rfl (nt := Tryz.f103.ntmps) rfl (by kernel_rfl) ?_
 (conv => whnf)
 exact ⟨rfl, rfl, rfl⟩
def numK (k : ByteArray) (n : Int) : ByteArray := strOf (keyB [.txt k, .num n])
theorem numbered_ (k : ByteArray) (n : Int) (hk : k.size ≤ 100000) (hn : -9223372036854775808 ≤ n ∧ n < 9223372036854775808) (H : Hp) : CallO Tryz.prog 53 [pv (.string k), pv (.int .i64 n)] H [] fun x H' G' => x = .ret (pv (.string (numK k n))) ∧ H.Le H' ∧ G' = [] := by
 refine CallO.of_body Tb.tab Tryz.func53 rfl (nt := Tryz.f53.ntmps) rfl (by kernel_rfl) ?_
 (conv => whnf)
 refine ⟨⟨_, Tryz.func102, rfl, by kernel_rfl⟩, CallS.use (text_ k H) [] rfl rfl trivial ?_⟩
 rintro x H2 G' hle2 ⟨rfl, rfl, rfl⟩
 (conv => whnf)
 refine ⟨⟨_, Tryz.func103, rfl, by kernel_rfl⟩, CallS.use (num_ n H2) [] rfl rfl trivial ?_⟩
 rintro x H3 G' hle3 ⟨rfl, rfl, rfl⟩
 (conv => whnf)
 refine ⟨by decide, .inl ?_⟩
 intro g H4 hle4 hrd
 (conv => whnf)
 refine ⟨⟨_, Tryz.func101, rfl, by kernel_rfl⟩, CallS.use (key_ [.txt k, .num n] (fun p hp => by simp at hp; rcases hp with rfl | rfl <;> assumption) (Nat.le_of_ble_eq_true rfl) g 0 2 H4 hrd) [] rfl rfl trivial ?_⟩
 rintro x H5 G' hle5 ⟨rfl, hle5', rfl⟩
 (conv => whnf)
 exact ⟨rfl, hle4.trans hle5, rfl⟩
end Go.Kx.Bk
namespace Go.Proofs
open Go.Shelf
def Tryz.laysAtoi_ren : Go.Shelf.Ren := ⟨fun | 172 => 86 | 244 => 141 | 245 => 142 | 247 => 201 | 279 => 202 | 280 => 203 | 281 => 204 | 282 => 205 | 287 => 273 | 316 => 274 | 171 => 84 | 205 => 275 | 321 => 320 | 322 => 321 | 243 => 139 | 246 => 200 | 283 => 269 | 284 => 270 | 285 => 271 | 286 => 272 | 129 => 316 | 317 => 315 | 318 => 317 | 319 => 318 | 320 => 319 | 337 => 349 | 338 => 350 | n => n, fun | 9 => 9 | 3 => 3 | 75 => 149 | 76 => 150 | 4 => 4 | 5 => 5 | 167 => 271 | 37 => 94 | 0 => 0 | 85 => 272 | 2 => 2 | 168 => 274 | 53 => 304 | 175 => 347 | 46 => 284 | 210 => 350 | 127 => 305 | 145 => 389 | 143 => 387 | 21 => 21 | 171 => 342 | 173 => 345 | 212 => 384 | 51 => 279 | 20 => 20 | 213 => 385 | 232 => 430 | 233 => 431 | 80 => 227 | n => n, fun | 15 => 0 | 16 => 1 | 17 => 2 | 18 => 6 | 19 => 7 | n => n⟩
theorem Tryz.laysAtoi : Go.Proofs.LaysC.n172 Tryz.prog Tryz.laysAtoi_ren where
 mixed := by kernel_rfl
 f129 := Tryz.func316.trans (congrArg some (by kernel_rfl))
 f171 := Tryz.func84.trans (congrArg some (by kernel_rfl))
 f172 := Tryz.func86.trans (congrArg some (by kernel_rfl))
 f205 := Tryz.func275.trans (congrArg some (by kernel_rfl))
 f243 := Tryz.func139.trans (congrArg some (by kernel_rfl))
 f244 := Tryz.func141.trans (congrArg some (by kernel_rfl))
 f245 := Tryz.func142.trans (congrArg some (by kernel_rfl))
 f246 := Tryz.func200.trans (congrArg some (by kernel_rfl))
 f247 := Tryz.func201.trans (congrArg some (by kernel_rfl))
 f279 := Tryz.func202.trans (congrArg some (by kernel_rfl))
 f280 := Tryz.func203.trans (congrArg some (by kernel_rfl))
 f281 := Tryz.func204.trans (congrArg some (by kernel_rfl))
 f282 := Tryz.func205.trans (congrArg some (by kernel_rfl))
 f283 := Tryz.func269.trans (congrArg some (by kernel_rfl))
 f284 := Tryz.func270.trans (congrArg some (by kernel_rfl))
 f285 := Tryz.func271.trans (congrArg some (by kernel_rfl))
 f286 := Tryz.func272.trans (congrArg some (by kernel_rfl))
 f287 := Tryz.func273.trans (congrArg some (by kernel_rfl))
 f316 := Tryz.func274.trans (congrArg some (by kernel_rfl))
 f317 := Tryz.func315.trans (congrArg some (by kernel_rfl))
 f318 := Tryz.func317.trans (congrArg some (by kernel_rfl))
 f319 := Tryz.func318.trans (congrArg some (by kernel_rfl))
 f320 := Tryz.func319.trans (congrArg some (by kernel_rfl))
 f321 := Tryz.func320.trans (congrArg some (by kernel_rfl))
 f322 := Tryz.func321.trans (congrArg some (by kernel_rfl))
 f337 := Tryz.func349.trans (congrArg some (by kernel_rfl))
 f338 := Tryz.func350.trans (congrArg some (by kernel_rfl))
 t0 := Tryz.underlying0
 a0 := Tryz.isAgg0
 z0 := Tryz.sizeOf0
 v0 := Tryz.zeroValue0
 t2 := Tryz.underlying2
 a2 := Tryz.isAgg2
 z2 := Tryz.sizeOf2
 v2 := Tryz.zeroValue2
 t3 := Tryz.underlying3
 a3 := Tryz.isAgg3
 z3 := Tryz.sizeOf3
 v3 := Tryz.zeroValue3
 t4 := Tryz.underlying4
 a4 := Tryz.isAgg4
 z4 := Tryz.sizeOf4
 v4 := Tryz.zeroValue4
 t5 := Tryz.underlying5
 a5 := Tryz.isAgg5
 z5 := Tryz.sizeOf5
 v5 := Tryz.zeroValue5
 t9 := Tryz.underlying9
 a9 := Tryz.isAgg9
 z9 := Tryz.sizeOf9
 v9 := Tryz.zeroValue9
 t20 := Tryz.underlying20
 a20 := Tryz.isAgg20
 z20 := Tryz.sizeOf20
 v20 := Tryz.zeroValue20
 t21 := Tryz.underlying21
 a21 := Tryz.isAgg21
 z21 := Tryz.sizeOf21
 v21 := Tryz.zeroValue21
 t37 := Tryz.underlying94
 a37 := Tryz.isAgg94
 z37 := Tryz.sizeOf94
 v37 := Tryz.zeroValue94
 t46 := Tryz.underlying284
 a46 := Tryz.isAgg284
 z46 := Tryz.sizeOf284
 v46 := Tryz.zeroValue284
 t51 := Tryz.underlying279
 a51 := Tryz.isAgg279
 z51 := Tryz.sizeOf279
 v51 := Tryz.zeroValue279
 t53 := Tryz.underlying304
 a53 := Tryz.isAgg304
 z53 := Tryz.sizeOf304
 v53 := Tryz.zeroValue304
 t75 := Tryz.underlying149
 a75 := Tryz.isAgg149
 z75 := Tryz.sizeOf149
 v75 := Tryz.zeroValue149
 t76 := Tryz.underlying150
 a76 := Tryz.isAgg150
 z76 := Tryz.sizeOf150
 v76 := Tryz.zeroValue150
 t85 := Tryz.underlying272
 a85 := Tryz.isAgg272
 z85 := Tryz.sizeOf272
 v85 := Tryz.zeroValue272
 t127 := Tryz.underlying305
 a127 := Tryz.isAgg305
 z127 := Tryz.sizeOf305
 v127 := Tryz.zeroValue305
 t143 := Tryz.underlying387
 a143 := Tryz.isAgg387
 z143 := Tryz.sizeOf387
 v143 := Tryz.zeroValue387
 t145 := Tryz.underlying389
 a145 := Tryz.isAgg389
 z145 := Tryz.sizeOf389
 v145 := Tryz.zeroValue389
 t167 := Tryz.underlying271
 a167 := Tryz.isAgg271
 z167 := Tryz.sizeOf271
 v167 := Tryz.zeroValue271
 t168 := Tryz.underlying274
 a168 := Tryz.isAgg274
 z168 := Tryz.sizeOf274
 v168 := Tryz.zeroValue274
 t171 := Tryz.underlying342
 a171 := Tryz.isAgg342
 z171 := Tryz.sizeOf342
 v171 := Tryz.zeroValue342
 t173 := Tryz.underlying345
 a173 := Tryz.isAgg345
 z173 := Tryz.sizeOf345
 v173 := Tryz.zeroValue345
 t175 := Tryz.underlying347
 a175 := Tryz.isAgg347
 z175 := Tryz.sizeOf347
 v175 := Tryz.zeroValue347
 t210 := Tryz.underlying350
 a210 := Tryz.isAgg350
 z210 := Tryz.sizeOf350
 v210 := Tryz.zeroValue350
 t212 := Tryz.underlying384
 a212 := Tryz.isAgg384
 z212 := Tryz.sizeOf384
 v212 := Tryz.zeroValue384
 t213 := Tryz.underlying385
 a213 := Tryz.isAgg385
 z213 := Tryz.sizeOf385
 t232 := Tryz.underlying430
 a232 := Tryz.isAgg430
 z232 := Tryz.sizeOf430
 v232 := Tryz.zeroValue430
 t233 := Tryz.underlying431
 a233 := Tryz.isAgg431
 z233 := Tryz.sizeOf431
 v233 := Tryz.zeroValue431
 g15 := by kernel_rfl
 g16 := by kernel_rfl
 g17 := by kernel_rfl
 g18 := by kernel_rfl
 g19 := by kernel_rfl
 t80 := Tryz.underlying227
 a80 := Tryz.isAgg227
 z80 := Tryz.sizeOf227
 v80 := Tryz.zeroValue227
 i0 := by kernel_rfl
 i2 := by kernel_rfl
 i3 := by kernel_rfl
 i4 := by kernel_rfl
 i5 := by kernel_rfl
 i9 := by kernel_rfl
 i20 := by kernel_rfl
 i21 := by kernel_rfl
 i37 := by kernel_rfl
 i46 := by kernel_rfl
 i51 := by kernel_rfl
 i53 := by kernel_rfl
 i75 := by kernel_rfl
 i76 := by kernel_rfl
 i80 := by kernel_rfl
 i85 := by kernel_rfl
 i127 := by kernel_rfl
 i143 := by kernel_rfl
 i145 := by kernel_rfl
 i167 := by kernel_rfl
 i168 := by kernel_rfl
 i171 := by kernel_rfl
 i173 := by kernel_rfl
 i175 := by kernel_rfl
 i210 := by kernel_rfl
 i212 := by kernel_rfl
 i232 := by kernel_rfl
 i233 := by kernel_rfl
 m15 := by kernel_rfl
 m16 := by kernel_rfl
 m17 := by kernel_rfl
 m18 := by kernel_rfl
 m19 := by kernel_rfl
 c0 := by kernel_rfl
 c2 := by kernel_rfl
 c3 := by kernel_rfl
 c4 := by kernel_rfl
 c5 := by kernel_rfl
 c9 := by kernel_rfl
 c20 := by kernel_rfl
 c21 := by kernel_rfl
 c37 := by kernel_rfl
 c46 := by kernel_rfl
 c51 := by kernel_rfl
 c53 := by kernel_rfl
 c75 := by kernel_rfl
 c76 := by kernel_rfl
 c80 := by kernel_rfl
 c85 := by kernel_rfl
 c127 := by kernel_rfl
 c143 := by kernel_rfl
 c145 := by kernel_rfl
 c167 := by kernel_rfl
 c168 := by kernel_rfl
 c171 := by kernel_rfl
 c173 := by kernel_rfl
 c175 := by kernel_rfl
 c210 := by kernel_rfl
 c212 := by kernel_rfl
 c213 := by kernel_rfl
 c232 := by kernel_rfl
 c233 := by kernel_rfl

end Go.Proofs
namespace Go.Kx.Lb
open Go.Proofs Go.Kx Go.RowKit
set_option maxRecDepth 20000
theorem atoi (s : ByteArray) (hs : s.size ≤ 1000000) (H : Hp) (G : List SB) (hv : ∀ g, (g = 0 ∨ g = 1) → ∃ te pe, H g 0 = some (.iface te pe)) :
  CallO Tryz.prog 86 [pv (.string s)] H G fun e H' G' => (∃ (v : Int) (x : Value), e = .ret (.tu [.ce (.val (.int .i64 v)), .ce (.val x)]) ∧ ((Lib.atoiAll s.data.toList = .ok v ∧ x = .nilIface) ∨ ((∀ u, Lib.atoiAll s.data.toList ≠ .ok u) ∧ ∃ te pe, x = .iface te pe))) ∧ H' = H ∧ G' = G := by
 refine (CallO.of_calls (args := [.string s]) (R := fun y => ∃ (v : Int) (x : Value), y = .tuple #[.int .i64 v, x] ∧ ((Lib.atoiAll s.data.toList = .ok v ∧ x = .nilIface) ∨ ((∀ u, Lib.atoiAll s.data.toList ≠ .ok u) ∧ ∃ te pe, x = .iface te pe))) fun w hg hin => ?_).mono ?_
 ·cases h : Lib.atoiAll s.data.toList
  ·rename_i v
   refine (Any.strconv_Atoi_ok Tryz.laysAtoi s (by omega) v h w).mono fun e w' ⟨he, hw⟩ => ⟨_, he, ⟨v, _, rfl, .inl ⟨rfl, rfl⟩⟩, ?_⟩
   rcases hw with rfl | ⟨t, rfl⟩
   ·exact grown_refl _
   ·exact ⟨rfl, rfl, rfl, by rw [Lib.bytesWorld_size]; omega, fun j hj _ => Lib.bytesWorld_at_old w _ t j hj⟩
  ·obtain ⟨te, pe, he⟩ := hv 0 (.inl rfl)
   refine (Any.strconv_Atoi_syntax Tryz.laysAtoi s (by omega) h _ w (hin _ _ _ he) (.inr ⟨te, pe, rfl⟩)).mono fun e w' ⟨N, he, _, _, hb⟩ => ⟨_, he, ⟨_, _, rfl, .inr ⟨fun u e => (nomatch e), _, _, rfl⟩⟩, grown_of_below hb⟩
  ·obtain ⟨te, pe, he⟩ := hv 1 (.inr rfl)
   refine (Any.strconv_Atoi_range Tryz.laysAtoi s (by omega) h _ w (hin _ _ _ he) (.inr ⟨te, pe, rfl⟩)).mono fun e w' ⟨N, he, _, _, hb⟩ => ⟨_, he, ⟨_, _, rfl, .inr ⟨fun u e => (nomatch e), _, _, rfl⟩⟩, grown_of_below hb⟩
 ·rintro e H' G' hle ⟨y, ⟨v, x, rfl, h⟩, rfl, rfl, rfl⟩
  exact ⟨⟨v, x, rfl, h⟩, rfl, rfl⟩
end Go.Kx.Lb
namespace Go.Kx.Bk
open Go.Proofs Go.Kx Go.RowKit Go.Kx.Wl Go.Kx.Dk Go.Kx.Cr Go.Kx.Wa Go.Kx.Kv Go.Kx.Ka Go.Kx.Tu
set_option maxRecDepth 20000
set_option linter.unusedSimpArgs false
def ErrH (H : Hp) : Prop := ∀ g, (g = 0 ∨ g = 1) → ∃ te pe, H g 0 = some (.iface te pe)
theorem ErrH.mono {H H' : Hp} (h : H.Le H') (he : ErrH H) : ErrH H' := fun g hg => let ⟨te, pe, e⟩ := he g hg; ⟨te, pe, h _ _ _ e⟩
def nK : ByteArray := ⟨#[110]⟩
def cntK (c : ByteArray) : ByteArray := singleK nK c
def CntAt (t : Tbl) (c : ByteArray) (k : Nat) : Prop := (k = 0 ∧ t (cntK c) = none) ∨ (1 ≤ k ∧ t (cntK c) = some (Lib.decDigits k))
theorem strOf_list (l : List UInt8) : (strOf l).data.toList = l := by unfold strOf; simp
theorem count_ (c : ByteArray) (hc : c.size ≤ 100000) (k : Nat) (hk : k ≤ 1099511627776) (p : Pg) (s : TN) (hct : CntAt s.1 c k) (H : Hp) (hE : ErrH H) (ht : TblM H p.f2 p.n2 s) :
  CallO Tryz.prog 41 [gP, pv (.string c)] H (pgG p) fun x H' G' => x = .ret (iV k) ∧ H.Le H' ∧ G' = pgG p := by
 have hg := fun H ht => cget_ (cntK c) p.d p.l p.n p.f p.age p.n2 p.f2 p.ps p.cage p.over s H ht
 have hsk := fun H => single_ nK c (by decide) hc H
 refine CallO.of_body Tb.tab Tryz.func41 rfl (nt := Tryz.f41.ntmps) rfl (by kernel_rfl) ?_
 (conv => whnf)
 refine WS.draw Tb.tab Tb.mixed (.take 0 (.take 1 (.take 2 (.take 3 (.take 4 (.alt 5 (.alt 6 (.take 7 (.take 8 (.take 9 (.take 10 (.take 11 .done))))) .no) .no)))))) (by kernel_rfl) [] ?_
 (conv => whnf)
 refine And.intro ?_ trivial
 (conv => whnf)
 refine ⟨⟨_, Tryz.func52, rfl, by kernel_rfl⟩, CallS.use (hsk H) [] rfl rfl trivial ?_⟩
 rintro x H2 G' hle2 ⟨rfl, hle2', rfl⟩
 (conv => whnf)
 refine ⟨⟨rfl, rfl, rfl, rfl, rfl, rfl, rfl, rfl, rfl, rfl, trivial⟩, ?_⟩
 (conv => whnf)
 refine And.intro ?_ trivial
 (conv => whnf)
 have ht2 := ht.mono hle2
 refine ⟨⟨_, Tryz.func85, rfl, by kernel_rfl⟩, CallS.use (hg H2 ht2) [0, 1, 2, 3, 4, 5, 6, 7, 8] rfl rfl ⟨rfl, rfl, rfl, rfl, rfl, rfl, rfl, rfl, rfl, trivial⟩ ?_⟩
 rintro x H3 G' hle3 ⟨hr, hle3', rfl⟩
 rcases hct with ⟨rfl, hn⟩ | ⟨h1, hv⟩
 ·rw [hn] at hr
  obtain ⟨A, m, cp, rfl⟩ := hr
  (conv => whnf)
  refine ⟨⟨rfl, rfl, rfl, rfl, rfl, rfl, rfl, rfl, rfl, rfl, trivial⟩, ?_⟩
  (conv => whnf)
  exact ⟨rfl, hle2.trans hle3, rfl⟩
 ·rw [hv] at hr
  obtain ⟨h4, A, m, cp, rfl, hsl⟩ := hr
  obtain ⟨b, o, rfl, hrd⟩ := hsl.at_ (by have := List.length_pos_iff.2 (Lb.decDigits_ne k); rw [hsl.len]; exact this)
  (conv => whnf)
  refine ⟨⟨rfl, rfl, rfl, rfl, rfl, rfl, rfl, rfl, rfl, rfl, trivial⟩, ?_⟩
  (conv => whnf)
  refine ⟨strOf (Lib.decDigits k), hsl.len.symm, .inr (by rw [← cells_str]; exact hrd), ?_⟩
  (conv => whnf)
  have hat := Lb.atoi (strOf (Lib.decDigits k)) (by rw [Tu.str_len]; omega) H3 [] (hE.mono (hle2.trans hle3))
  refine ⟨⟨_, Tryz.func86, rfl, by kernel_rfl⟩, CallS.use hat [] rfl rfl trivial ?_⟩
  rintro x H4 G' hle4 ⟨⟨v, y, rfl, hv2⟩, rfl, rfl⟩
  rw [strOf_list, Lb.atoi_dec k (by omega)] at hv2
  rcases hv2 with ⟨hv3, rfl⟩ | ⟨hv3, _⟩
  ·injection hv3 with hv3
   subst hv3
   (conv => whnf)
   have e1 : decide (((k : Nat) : Int) ≥ 1) = true := decide_eq_true (by omega)
   rw [e1]
   refine ⟨⟨_, Tryz.func81, rfl, by kernel_rfl⟩, CallS.use (must_ true 22 (fun h => (nomatch h)) p H4) [0, 1, 2, 3, 4, 5, 6, 7, 8, 9] rfl rfl ⟨rfl, rfl, rfl, rfl, rfl, rfl, rfl, rfl, rfl, rfl, trivial⟩ ?_⟩
   rintro x H5 G' hle5 ⟨rfl, rfl, rfl⟩
   (conv => whnf)
   exact ⟨rfl, hle2.trans hle3, rfl⟩
  ·exact absurd rfl (hv3 k)
end Go.Kx.Bk
namespace Go.Kx.Bk
open Go.Proofs Go.Kx Go.RowKit Go.Kx.Wl Go.Kx.Dk Go.Kx.Cr Go.Kx.Wa Go.Kx.Kv Go.Kx.Ka Go.Kx.Tu
set_option maxRecDepth 20000
set_option linter.unusedSimpArgs false
theorem dec_len : ∀ (n u : Nat), 1 ≤ n → u < 10 ^ n → (Lib.decDigits u).length ≤ n
 | 0, u, h, _ => by omega
 | n + 1, u, _, hu => by
  by_cases h : u < 10
  ·rw [Lib.decDigits, dif_pos h]
   simp
  ·rw [Lb.decDigits_big h, List.length_append]
   have h1 : 1 ≤ n := by
    rcases Nat.eq_zero_or_pos n with rfl | h2
    ·simp at hu; omega
    ·exact h2
   have := dec_len n (u / 10) h1 (by rw [Nat.pow_succ] at hu; omega)
   simp
   omega
theorem itoa_nat (k : Nat) : Lb.itoaB ((k : Nat) : Int) = strOf (Lib.decDigits k) := by
 unfold Lb.itoaB strOf Lib.itoa
 rfl
theorem cntK_size (c : ByteArray) (h : c.size ≤ 40) : 1 ≤ (cntK c).size ∧ (cntK c).size ≤ 128 := by
 have h1 := esc_len c.data.toList
 have h2 : c.data.toList.length = c.size := by rw [Array.length_toList]; rfl
 have e : (cntK c).size = 4 + (1 + ((esc c.data.toList).length + 2)) := by
  show (strOf (keyB [.txt nK, .txt c])).size = _
  rw [Tu.str_len]
  show ((textB nK.data.toList) ++ ((textB c.data.toList) ++ [])).length = _
  rw [List.length_append, List.append_nil]
  have e1 : (textB nK.data.toList).length = 4 := rfl
  have e2 : (textB c.data.toList).length = 1 + ((esc c.data.toList).length + 2) := by unfold textB; simp; omega
  rw [e1, e2]
 omega
def cntS (c : ByteArray) (k : Nat) : Stp := ⟨1, cntK c, Lib.decDigits k⟩
theorem next_ (c : ByteArray) (h1 : 1 ≤ c.size) (h2 : c.size ≤ 40) (k : Nat) (hk : k ≤ 1099511627776) (p : Pg) (hps : p.ps.length < 64) (hov : p.over = false) (s : TN) (hct : CntAt s.1 c k) (H : Hp) (hE : ErrH H) (ht : TblM H p.f2 p.n2 s) :
  CallO Tryz.prog 40 [gP, pv (.string c)] H (pgG p) fun x H' G' => H.Le H' ∧ ((k : Int) < p.lim → x = .ret (iV (k + 1)) ∧ ∃ n3 f3 v, TblM H' f3 n3 (doN s (cntS c (k + 1))) ∧ StpAt H' (cntS c (k + 1)) v ∧ G' = pgH { p with n2 := n3, f2 := f3, ps := p.ps ++ [(cntS c (k + 1), v)] }) ∧
   (¬ (k : Int) < p.lim → x = .pan (failE 14) ∧ G' = pgG p) := by
 have hne : strEq c ⟨#[]⟩ = false := by
  cases h : strEq c ⟨#[]⟩
  ·rfl
  ·rw [strEq_iff.1 h] at h1; exact absurd h1 (by decide)
 have hcn := count_ c (by omega) k hk p s hct
 have hdl : (Lib.decDigits (k + 1)).length ≤ 13 := dec_len 13 (k + 1) (by decide) (by omega)
 have hpt := fun A m cp H ht hv => put_ (cntK c) (cntK_size c h2) A m cp (Lib.decDigits (k + 1)) (by omega) p.d p.l p.n p.f p.age p.n2 p.f2 p.ps hps p.cage s H hv ht
 refine CallO.of_body Tb.tab Tryz.func40 rfl (nt := Tryz.f40.ntmps) rfl (by kernel_rfl) ?_
 (conv => whnf)
 rw [hne]
 (conv => whnf)
 have e0 : decide ((c.size : Int) ≤ 40) = true := decide_eq_true (by omega)
 rw [e0]
 refine ⟨⟨_, Tryz.func81, rfl, by kernel_rfl⟩, CallS.use (must_ true 10 (fun h => (nomatch h)) p H) [0, 1, 2, 3, 4, 5, 6, 7, 8, 9] rfl rfl ⟨rfl, rfl, rfl, rfl, rfl, rfl, rfl, rfl, rfl, rfl, trivial⟩ ?_⟩
 rintro x H2 G' hle2 ⟨rfl, rfl, rfl⟩
 (conv => whnf)
 refine ⟨⟨_, Tryz.func41, rfl, by kernel_rfl⟩, CallS.use (hcn H2 hE ht) [0, 1, 2, 3, 4, 5, 6, 7, 8, 9] rfl rfl ⟨rfl, rfl, rfl, rfl, rfl, rfl, rfl, rfl, rfl, rfl, trivial⟩ ?_⟩
 rintro x H3 G' hle3 ⟨rfl, hle3', rfl⟩
 (conv => whnf)
 by_cases hlt : ((k : Nat) : Int) < p.lim
 ·rw [decide_eq_true hlt]
  refine ⟨⟨_, Tryz.func81, rfl, by kernel_rfl⟩, CallS.use (must_ true 14 (fun h => (nomatch h)) p H3) [0, 1, 2, 3, 4, 5, 6, 7, 8, 9] rfl rfl ⟨rfl, rfl, rfl, rfl, rfl, rfl, rfl, rfl, rfl, rfl, trivial⟩ ?_⟩
  rintro x H4 G' hle4 ⟨rfl, rfl, rfl⟩
  (conv => whnf)
  refine WS.draw Tb.tab Tb.mixed (.take 0 (.take 1 (.take 2 (.take 3 (.take 4 (.take 5 (.take 7 (.take 8 (.alt 6 (.alt 9 (.alt 10 (.alt 11 (.alt 12 .done .no) .no) .no) .no) .no))))))))) (by kernel_rfl) [6, 7, 8] ?_
  (conv => whnf)
  have e3 : IntKind.i64.wrap ((k : Int) + 1) = ((k + 1 : Nat) : Int) := by rw [wrap64 (by omega) (by omega)]; omega
  rw [e3]
  have hit := fun H => Lb.itoa ((k + 1 : Nat) : Int) (by omega) (by omega) H []
  rw [itoa_nat] at hit
  refine And.intro ?_ trivial
  (conv => whnf)
  refine ⟨⟨_, Tryz.func52, rfl, by kernel_rfl⟩, CallS.use (single_ nK c (by decide) (by omega) H4) [] rfl rfl trivial ?_⟩
  rintro x H5 G' hle5 ⟨rfl, hle5', rfl⟩
  (conv => whnf)
  refine ⟨⟨rfl, rfl, rfl, rfl, rfl, rfl, trivial, trivial, trivial, rfl, trivial⟩, ?_⟩
  (conv => whnf)
  refine And.intro ?_ trivial
  (conv => whnf)
  refine ⟨⟨_, Tryz.func84, rfl, by kernel_rfl⟩, CallS.use (hit H5) [] rfl rfl trivial ?_⟩
  rintro x H6 G' hle6 ⟨rfl, rfl, rfl⟩
  (conv => whnf)
  refine ⟨⟨rfl, rfl, rfl, rfl, rfl, rfl, trivial, trivial, trivial, rfl, trivial⟩, ?_⟩
  (conv => whnf)
  refine And.intro ?_ trivial
  (conv => whnf)
  intro g cp H7 hle7 hcp hrd7
  refine ⟨⟨rfl, rfl, rfl, rfl, rfl, rfl, trivial, trivial, trivial, rfl, trivial⟩, ?_⟩
  (conv => whnf)
  refine And.intro ?_ trivial
  (conv => whnf)
  have hsl : SlAt H7 (some ⟨g, 0, none⟩) (strOf (Lib.decDigits (k + 1))).size cp (Lib.decDigits (k + 1)) := ⟨Tu.str_len _, hcp, .inr ⟨g, 0, rfl, by rw [cells_str]; exact hrd7⟩⟩
  have hpt7 := hpt (some ⟨g, 0, none⟩) _ cp H7 (ht.mono (((hle3.trans hle5).trans hle6).trans hle7)) hsl
  refine ⟨⟨_, Tryz.func83, rfl, by kernel_rfl⟩, CallS.use hpt7 [0, 1, 2, 3, 4, 5, 6, 7, 8] rfl rfl ⟨rfl, rfl, rfl, rfl, rfl, rfl, rfl, ?_, rfl, trivial⟩ ?_⟩
  ·rw [hov]; exact rfl
  rintro x H8 G' hle8 ⟨rfl, hle8', n3, f3, v, ht8, hv8, rfl⟩
  (conv => whnf)
  refine ⟨⟨rfl, rfl, rfl, rfl, rfl, rfl, trivial, trivial, trivial, rfl, trivial⟩, ?_⟩
  (conv => whnf)
  refine And.intro ?_ trivial
  (conv => whnf)
  refine ⟨⟨_, Tryz.func82, rfl, by kernel_rfl⟩, CallS.use (done_ 0 { p with n2 := n3, f2 := f3, ps := p.ps ++ [(cntS c (k + 1), v)], over := false } H8) [0, 1, 2, 3, 4, 5, 6, 7, 10, 9] rfl rfl ⟨rfl, rfl, rfl, rfl, rfl, rfl, rfl, rfl, rfl, rfl, trivial⟩ ?_⟩
  rintro x H9 G' hle9 ⟨rfl, rfl, rfl⟩
  (conv => whnf)
  refine ⟨⟨rfl, rfl, rfl, rfl, rfl, rfl, trivial, trivial, trivial, rfl, trivial, trivial⟩, ?_⟩
  (conv => whnf)
  rw [e3]
  refine ⟨(((hle3.trans hle5).trans hle6).trans hle7).trans hle8, fun _ => ⟨rfl, n3, f3, v, ht8, hv8, ?_⟩, fun h => absurd hlt h⟩
  obtain ⟨d, l, n, f, age, n2, f2, ps, cage, over, lim⟩ := p
  obtain rfl : over = false := hov
  exact rfl
 ·rw [decide_eq_false hlt]
  refine ⟨⟨_, Tryz.func81, rfl, by kernel_rfl⟩, CallS.use (must_ false 14 (fun _ => by decide) p H3) [0, 1, 2, 3, 4, 5, 6, 7, 8, 9] rfl rfl ⟨rfl, rfl, rfl, rfl, rfl, rfl, rfl, rfl, rfl, rfl, trivial⟩ ?_⟩
  rintro x H4 G' hle4 ⟨rfl, rfl, rfl⟩
  (conv => whnf)
  exact ⟨hle3, fun h => absurd h hlt, fun _ => ⟨rfl, rfl⟩⟩
end Go.Kx.Bk
namespace Go.Kx.En
open Go.Proofs Go.Kx Go.RowKit Go.Kx.Js Go.Kx.Pr Go.Kx.Bu
set_option maxRecDepth 20000
set_option linter.unusedSimpArgs false
def T : Tab := [(322, { k := TK.st [(0, 3, 1), (1, 3, 1)], agg := true, size := 2, bytes := 16, zero := [Z.i IntKind.i64, Z.i IntKind.i64] }), (242, { k := TK.st [(0, 240, 1), (1, 94, 1)], agg := true, size := 2, bytes := 32, zero := [Z.p, Z.sl] }), (5, { k := TK.int IntKind.u8, agg := false, size := 1, bytes := 1, zero := [Z.i IntKind.u8] }), (9, { k := TK.string, agg := false, size := 1, bytes := 16, zero := [Z.s] }), (94, { k := TK.slice 5, agg := false, size := 1, bytes := 24, zero := [Z.sl] }), (30, { k := TK.int IntKind.i64, agg := false, size := 1, bytes := 8, zero := [Z.i IntKind.i64] }), (3, { k := TK.int IntKind.i64, agg := false, size := 1, bytes := 8, zero := [Z.i IntKind.i64] }), (4, { k := TK.bool, agg := false, size := 1, bytes := 1, zero := [Z.b] }), (378, { k := TK.ptr 322, agg := false, size := 1, bytes := 8, zero := [Z.p] }), (240, { k := TK.ptr 242, agg := false, size := 1, bytes := 8, zero := [Z.p] })]
set_option maxRecDepth 100000 in
theorem tab : TabOk Tryz.prog T := tabOk_mk (ts := [322, 242, 5, 9, 94, 30, 3, 4, 378, 240]) (by kernel_rfl)
theorem mixed : Tryz.prog.follows .mixedOrders = true := by kernel_rfl
def bitB (r n : Int) : SB := .box 322 [.val (.int .i64 r), .val (.int .i64 n)]
theorem ofI (x : Nat) : BitVec.ofInt 64 (x : Int) = BitVec.ofNat 64 x := by simp
theorem orW (x c : Nat) (hx : x < 9223372036854775808) (hc : c < 9223372036854775808) : IntKind.i64.wrap (((BitVec.ofInt IntKind.i64.bits (x : Int) ||| BitVec.ofInt IntKind.i64.bits (c : Int)).toNat : Nat) : Int) = ((x ||| c : Nat) : Int) := by
 show IntKind.i64.wrap (((BitVec.ofInt 64 (x : Int) ||| BitVec.ofInt 64 (c : Int)).toNat : Nat) : Int) = ((x ||| c : Nat) : Int)
 rw [ofI, ofI, BitVec.toNat_or, BitVec.toNat_ofNat, BitVec.toNat_ofNat, Nat.mod_eq_of_lt (by omega), Nat.mod_eq_of_lt (by omega)]
 have : x ||| c < 2 ^ 63 := Nat.or_lt_two_pow (by omega) (by omega)
 rw [wrap64 (by omega) (by omega)]
theorem andW (x c : Nat) (hx : x < 9223372036854775808) (hc : c < 9223372036854775808) : IntKind.i64.wrap (((BitVec.ofInt IntKind.i64.bits (x : Int) &&& BitVec.ofInt IntKind.i64.bits (c : Int)).toNat : Nat) : Int) = ((x &&& c : Nat) : Int) := by
 show IntKind.i64.wrap (((BitVec.ofInt 64 (x : Int) &&& BitVec.ofInt 64 (c : Int)).toNat : Nat) : Int) = ((x &&& c : Nat) : Int)
 rw [ofI, ofI, BitVec.toNat_and, BitVec.toNat_ofNat, BitVec.toNat_ofNat, Nat.mod_eq_of_lt (by omega), Nat.mod_eq_of_lt (by omega)]
 have : x &&& c < 2 ^ 63 := Nat.and_lt_two_pow x (by omega)
 rw [wrap64 (by omega) (by omega)]
theorem push_ (r n c w : Nat) (hr : r < 64) (hn : n < 16) (hw : w ≤ 8) (hc : c < 2 ^ w) (H : Hp) : CallO Tryz.prog 248 [.si (.ce (.ptr 0 0)), pv (.int .i64 c), pv (.int .i64 w)] H [bitB r n] fun e H' G' => e = .ret (.tu []) ∧ H' = H ∧ G' = [bitB (r * 2 ^ w + c : Nat) (n + w : Nat)] := by
 refine CallO.of_body tab Tryz.func248 rfl (nt := Tryz.f248.ntmps) rfl (by kernel_rfl) ?_
 (conv => whnf)
 refine ⟨by omega, ?_⟩
 (conv => whnf)
 have h2 : (2 : Nat) ^ w ≤ 2 ^ 8 := Nat.pow_le_pow_right (by omega) hw
 have h3 : r * 2 ^ w ≤ 63 * 256 := Nat.mul_le_mul (by omega) h2
 have e1 : IntKind.i64.wrap ((r : Int) * 2 ^ min (w : Int).toNat IntKind.i64.bits) = ((r * 2 ^ w : Nat) : Int) := by
  have : min (w : Int).toNat IntKind.i64.bits = w := by
   rw [Int.toNat_natCast]
   exact Nat.min_eq_left (Nat.le_trans hw (by decide))
  rw [this]
  have e : ((r : Int) * 2 ^ w) = ((r * 2 ^ w : Nat) : Int) := by simp
  rw [e, wrap64 (by omega) (by omega)]
 rw [e1, orW _ _ (by omega) (by have := Nat.pow_le_pow_right (n := 2) (by omega) hw; omega), wrap64 (x := (n : Int) + w) (by omega) (by omega)]
 have e2 : r * 2 ^ w ||| c = r * 2 ^ w + c := by rw [Nat.mul_comm, ← Nat.two_pow_add_eq_or_of_lt hc r]
 rw [e2]
 exact ⟨rfl, rfl, rfl⟩
theorem pop_ (r n w : Nat) (hr : r < 65536) (hn : n < 32) (hw : w ≤ 8) (H : Hp) : CallO Tryz.prog 249 [.si (.ce (.ptr 0 0)), pv (.int .i64 w)] H [bitB r n] fun e H' G' => (n < w → e = .ret (.tu [.ce (.val (.int .i64 0)), .ce (.val (.bool false))]) ∧ G' = [bitB r n]) ∧ (¬ n < w → e = .ret (.tu [.ce (.val (.int .i64 ((r / 2 ^ (n - w) : Nat) : Int))), .ce (.val (.bool true))]) ∧ G' = [bitB (r % 2 ^ (n - w) : Nat) (n - w : Nat)]) ∧ H' = H := by
 refine CallO.of_body tab Tryz.func249 rfl (nt := Tryz.f249.ntmps) rfl (by kernel_rfl) ?_
 (conv => whnf)
 refine br.of (fun h1 => ?_) (fun h1 => ?_) <;> (conv => whnf)
 ·have h1 := of_decide_eq_true h1
  exact ⟨fun _ => ⟨rfl, rfl⟩, fun h => absurd (by omega) h, rfl⟩
 have h1 := of_decide_eq_false h1
 rw [wrap64 (x := (n : Int) - w) (by omega) (by omega)]
 refine WS.draw tab mixed (.take 0 (.take 1 (.take 2 (.take 3 (.take 4 (.take 5 (.take 6 (.take 7 (.take 8 (.take 9 .done)))))))))) (by kernel_rfl) [] ?_
 (conv => whnf)
 refine ⟨by omega, ?_⟩
 (conv => whnf)
 obtain ⟨q, hq⟩ : ∃ q : Nat, n - w = q := ⟨_, rfl⟩
 have hqi : (n : Int) - w = (q : Int) := by omega
 have hq32 : q < 32 := by omega
 rw [hqi, hq]
 have hp : (2 : Nat) ^ q ≤ 2 ^ 31 := Nat.pow_le_pow_right (by omega) (by omega)
 have hp0 : 0 < (2 : Nat) ^ q := Nat.two_pow_pos q
 have hmin : min (q : Int).toNat IntKind.i64.bits = q := by
  rw [Int.toNat_natCast]
  exact Nat.min_eq_left (Nat.le_trans (by omega : q ≤ 64) (by decide))
 have hdiv : (r : Int).fdiv (2 ^ min (q : Int).toNat IntKind.i64.bits) = ((r / 2 ^ q : Nat) : Int) := by
  rw [hmin]
  have : ((2 : Int) ^ q) = ((2 ^ q : Nat) : Int) := by simp
  rw [this, Int.fdiv_eq_ediv_of_nonneg _ (by omega)]; rfl
 rw [hdiv]
 have hsh : IntKind.i64.wrap (IntKind.i64.wrap ((1 : Int) * 2 ^ min (q : Int).toNat IntKind.i64.bits) - 1) = ((2 ^ q - 1 : Nat) : Int) := by
  rw [hmin]
  have : ((2 : Int) ^ q) = ((2 ^ q : Nat) : Int) := by simp
  rw [this, Int.one_mul]
  clear hdiv this
  generalize (2 : Nat) ^ q = P at *
  rw [wrap64 (x := (P : Int)) (by omega) (by omega), wrap64 (by omega) (by omega)]
  omega
 have hlt : 2 ^ q - 1 < 9223372036854775808 := by omega
 have hr2 : r < 9223372036854775808 := by omega
 have hq0 : (0 : Int) ≤ (q : Int) := by omega
 refine WS.draw tab mixed (.take 0 (.take 1 (.take 2 (.take 4 (.take 5 (.take 6 (.alt 3 (.alt 7 (.take 8 (.take 9 (.take 10 (.take 11 (.take 12 (.alt 13 .done .no)))))) .no) (.alt 7 (.take 8 (.take 9 (.alt 3 (.take 10 (.take 11 (.take 12 (.alt 13 .done .no)))) .no))) .no)))))))) (by kernel_rfl) [0] ?_
 (conv => whnf)
 repeat' (first | exact trivial | exact rfl | exact ⟨fun h => absurd h (by omega), fun _ => ⟨rfl, rfl⟩, rfl⟩ | (refine ⟨hq0, ?_⟩; (conv => whnf)) | (rw [hsh, andW r (2 ^ q - 1) hr2 hlt, Nat.and_two_pow_sub_one_eq_mod]; (conv => whnf)) | (refine And.intro ?_ ?_ <;> (conv => whnf)))
end Go.Kx.En
namespace Go.Kx
open Go.RowKit
section
variable {P : Program}
theorem WS.nilCell {n e : Nat} {D : Pin} {c : Code} {K : KT} {F : Fr} {H : Hp} {G : List SB} (k i : Nat) {t : TypeId} {cs : List SC} (et sz : Nat) (hk : G[k]? = some (.box t cs)) (hi : cs[i]? = some (.val (.slice none 0 0)))
  (h : WS P n e D c K F H (G.set k (.box t (cs.set i (.self G.length))) ++ [.row et sz 0 []])) : WS P n e D c K F H G := by
 refine ⟨fun w0 M hgd H0 ρ a w hs hf hd hn => ?_⟩
 have hs' := hs.nilCell et sz hk hi
 exact wp_mono (h.to w0 M hgd H0 _ a w hs' (hf.mono (Pre.append _ _)) hd hn) (PostX.le (Pre.append _ _).toE (.refl _))
end
end Go.Kx
namespace Go.Kx.En
open Go.Proofs Go.Kx Go.RowKit Go.Kx.Js Go.Kx.Pr Go.Kx.Bu
set_option maxRecDepth 20000
set_option linter.unusedSimpArgs false
def lettersL : List UInt8 := [65, 66, 67, 68, 69, 70, 71, 72, 73, 74, 75, 76, 77, 78, 79, 80, 81, 82, 83, 84, 85, 86, 87, 88, 89, 90, 97, 98, 99, 100, 101, 102, 103, 104, 105, 106, 107, 108, 109, 110, 111, 112, 113, 114, 115, 116, 117, 118, 119, 120, 121, 122, 48, 49, 50, 51, 52, 53, 54, 55, 56, 57, 45, 95]
def letterP (n : Nat) : UInt8 := lettersL.getD n 0
theorem letter_at (n : Nat) : byteAt ⟨lettersL.toArray⟩ (n : Int) = ((letterP n).toNat : Int) := by
 unfold byteAt letterP
 rw [Int.toNat_natCast]
def popsP : Nat → Nat → Nat → List UInt8 × Nat × Nat
 | 0, r, n => ([], r, n)
 | f + 1, r, n => if n < 6 then ([], r, n) else ((letterP (r / 2 ^ (n - 6))) :: (popsP f (r % 2 ^ (n - 6)) (n - 6)).1, (popsP f (r % 2 ^ (n - 6)) (n - 6)).2)
def encG : Nat → Nat → List UInt8 → List UInt8
 | r, n, [] => if 0 < n then [letterP (r * 2 ^ (6 - n))] else []
 | r, n, c :: l => (popsP 3 (r * 2 ^ 8 + c.toNat) (n + 8)).1 ++ encG (popsP 3 (r * 2 ^ 8 + c.toNat) (n + 8)).2.1 (popsP 3 (r * 2 ^ 8 + c.toNat) (n + 8)).2.2 l
def encP (l : List UInt8) : List UInt8 := encG 0 0 l
theorem popsP_inv : ∀ (f r n : Nat), n < 6 * (f + 1) → r < 2 ^ n → (popsP f r n).2.2 < 6 ∧ (popsP f r n).2.1 < 2 ^ (popsP f r n).2.2 ∧ (popsP f r n).1.length ≤ f
 | 0, r, n, h, hr => ⟨by simpa [popsP] using h, by simpa [popsP] using hr, by simp [popsP]⟩
 | f + 1, r, n, h, hr => by
  unfold popsP
  split
  ·exact ⟨by assumption, hr, by simp⟩
  ·obtain ⟨h1, h2, h3⟩ := popsP_inv f (r % 2 ^ (n - 6)) (n - 6) (by omega) (Nat.mod_lt _ (Nat.two_pow_pos _))
   exact ⟨h1, h2, by simp only [List.length_cons]; omega⟩
abbrev clo : SV := .si (.ce (.fn (.func 239) 1 [(0, 0)]))
theorem _root_.Go.Kx.BytesZ.full {H : Hp} {A : Option Addr} {n : Nat} {bs : List UInt8} (h : BytesZ H A n bs) (h0 : n ≠ 0) : BytesAt H A n bs := ⟨h.1, h.2.1, fun a e => (h.2.2 a e).resolve_left h0⟩
end Go.Kx.En
namespace Go.Kx.En
open Go.Proofs Go.Kx Go.RowKit Go.Kx.Js Go.Kx.Pr Go.Kx.Bu
set_option maxRecDepth 20000
set_option linter.unusedSimpArgs false
theorem wrapB (x : Int) : IntKind.u8.wrap x = x % 256 := by unfold IntKind.wrap; rfl
def numL (c : UInt8) : Int := ixB lettersL c
theorem numL_lt (c : UInt8) : numL c < 64 ∧ -1 ≤ numL c := by
 have h : ∀ n : Fin 256, numL (UInt8.ofNat n.val) < 64 ∧ -1 ≤ numL (UInt8.ofNat n.val) := by decide +kernel
 have h1 := h ⟨c.toNat, c.toNat_lt⟩
 simpa using h1
def decG : Nat → Nat → List UInt8 → Option (List UInt8)
 | r, n, [] => if 6 ≤ n ∨ r ≠ 0 then none else some []
 | r, n, c :: l => if numL c < 0 then none else
  if n + 6 < 8 then decG (r * 64 + (numL c).toNat) (n + 6) l else
   match decG ((r * 64 + (numL c).toNat) % 2 ^ (n - 2)) (n - 2) l with
   | none => none
   | some o => some (UInt8.ofNat ((r * 64 + (numL c).toNat) / 2 ^ (n - 2)) :: o)
def decP (s : ByteArray) : Option (List UInt8) := decG 0 0 s.data.toList
def pre (o : List UInt8) : Option (List UInt8) → Option (List UInt8)
 | none => none
 | some l => some (o ++ l)
theorem bAtZ (s : ByteArray) (i : Nat) (h : i < s.size) : ∃ c : UInt8, s.data.toList[i]? = some c ∧ byteAt s (i : Int) = (c.toNat : Int) := by
 have hl : i < s.data.toList.length := by rw [Array.length_toList]; exact h
 refine ⟨s.data.toList[i]'hl, List.getElem?_eq_getElem _, ?_⟩
 unfold byteAt
 rw [Int.toNat_natCast, List.getD_eq_getElem?_getD, List.getElem?_eq_getElem hl]
 rfl
def KD (s : ByteArray) (e : SE) (G' : List SB) : Prop :=
 (decP s = none ∧ e = .ret (.tu [.ce (.val (.slice none 0 0)), .ce (.val (.int .i64 10))]) ∧ G' = []) ∨ (∃ L r k, decP s = some L ∧ e = .ret (.tu [.ce (.self 1), .ce (.val (.int .i64 0))]) ∧ G' = [bitB r k, rB L])
theorem dec0 (s : ByteArray) (hs : s.size ≤ 1000000) (H : Hp) : CallO Tryz.prog 174 [pv (.string s)] H [] fun e _ G' => KD s e G' := by
 have hsl : s.data.toList.length = s.size := by rw [Array.length_toList]; rfl
 refine CallO.of_body tab Tryz.func174 rfl (nt := Tryz.f174.ntmps) rfl (by kernel_rfl) ?_
 (conv => whnf)
 refine WS.nilRow 4 5 1 rfl ?_
 (conv => whnf)
 refine WS.loop (fun k' F H3 G => ∃ (i r k : Nat) (out : List UInt8), i ≤ s.size ∧ (k ≤ 6 ∧ k % 2 = 0) ∧ r < 2 ^ k ∧ out.length ≤ i ∧ pre out (decG r k (s.data.toList.drop i)) = decP s ∧ k' = s.size - i ∧ F = [(0, pv (.string s)), (4, .si (.ce (.self 1))), (5, .si (.ce (.ptr 0 0))), (11, pv (.int .i64 s.size)), (12, pv (.int .i64 i))] ∧ H.Le H3 ∧ G = [bitB r k, rB out]) (s.size + 1) ?_ ?_
 ·refine ⟨s.size, by omega, _, _, [0, 1], ⟨0, 0, 0, [], by omega, by omega, by omega, Nat.le_refl _, ?_, rfl, rfl, .refl _, rfl⟩, ?_⟩
  ·rw [List.drop_zero]
   show pre [] (decP s) = decP s
   cases decP s <;> rfl
  exact ⟨rfl, ⟨rfl, rfl, trivial⟩, rfl, rfl, rfl, rfl, rfl, trivial⟩
 rintro k' F H3 G hle3 ⟨i, r, k, out, hi, ⟨hk6, hkev⟩, hrk, hol, hdec, rfl, rfl, hle4, rfl⟩
 refine codeL.go tab ?_
 (conv => whnf)
 refine br.of (fun h1 => ?_) (fun h1 => ?_) <;> (conv => whnf)
 ·have h1 := of_decide_eq_true h1
  have hil : i < s.size := by omega
  refine ⟨⟨by omega, by omega⟩, ?_⟩
  obtain ⟨x, hx, hv⟩ := bAtZ s i hil
  rw [hv]
  have hd : s.data.toList.drop i = x :: s.data.toList.drop (i + 1) := by
   rw [List.drop_eq_getElem?_toList_append, hx]; rfl
  rw [hd, decG] at hdec
  (conv => whnf)
  have hix := Js.indexByte ⟨lettersL.toArray⟩ x H3 []
  have hnl : ixB (⟨lettersL.toArray⟩ : ByteArray).data.toList x = numL x := rfl
  obtain ⟨hv64, hv1⟩ := numL_lt x
  rw [hnl] at hix
  generalize numL x = v at hix hdec hv64 hv1
  refine ⟨⟨_, Tryz.func189, rfl, by kernel_rfl⟩, CallS.use hix [] rfl rfl trivial ?_⟩
  rintro e H4 G' hle5 ⟨rfl, rfl, rfl⟩
  (conv => whnf)
  refine br.of (fun h2 => ?_) (fun h2 => ?_) <;> (conv => whnf)
  ·have h2 := of_decide_eq_true h2
   rw [if_pos h2] at hdec
   exact .inl ⟨hdec.symm, rfl, rfl⟩
  have h2 := of_decide_eq_false h2
  rw [if_neg h2] at hdec
  obtain ⟨d, rfl⟩ : ∃ d : Nat, v = (d : Int) := ⟨v.toNat, by omega⟩
  rw [Int.toNat_natCast] at hdec
  have hd64 : d < 64 := by omega
  have hr64 : r < 64 := Nat.lt_of_lt_of_le hrk (Nat.le_trans (Nat.pow_le_pow_right (by omega) (show k ≤ 6 by omega)) (by decide))
  refine ⟨⟨_, Tryz.func248, rfl, by kernel_rfl⟩, CallS.use (push_ r k d 6 hr64 (by omega) (by omega) (by omega) H4) [0] rfl rfl ⟨rfl, trivial⟩ ?_⟩
  rintro e H5 G' hle6 ⟨rfl, rfl, rfl⟩
  (conv => whnf)
  have e64 : r * 2 ^ 6 + d = r * 64 + d := rfl
  rw [e64]
  have hR : r * 64 + d < 2 ^ (k + 6) := by
   rw [Nat.pow_add]
   have := Nat.mul_le_mul_right (2 ^ 6) (show r + 1 ≤ 2 ^ k by omega)
   omega
  have hR2 : r * 64 + d < 65536 := by omega
  generalize r * 64 + d = R at *
  refine ⟨⟨_, Tryz.func249, rfl, by kernel_rfl⟩, CallS.use (pop_ R (k + 6) 8 hR2 (by omega) (by omega) H5) [0] rfl rfl ⟨rfl, trivial⟩ ?_⟩
  rintro e H6 G' hle7 ⟨hp1, hp2, rfl⟩
  by_cases hk2 : k + 6 < 8
  ·obtain ⟨rfl, rfl⟩ := hp1 hk2
   rw [if_pos hk2] at hdec
   (conv => whnf)
   rw [wrap64 (x := (i : Int) + 1) (by omega) (by omega)]
   refine ⟨s.size - (i + 1), by omega, _, _, [0, 1], ⟨i + 1, R, k + 6, out, by omega, by omega, hR, by omega, hdec, rfl, rfl, hle4.trans hle7, rfl⟩, ?_⟩
   exact ⟨rfl, ⟨rfl, rfl, trivial⟩, rfl, rfl, rfl, rfl, rfl, trivial⟩
  ·obtain ⟨rfl, rfl⟩ := hp2 hk2
   rw [if_neg hk2] at hdec
   have hk8 : k + 6 - 8 = k - 2 := by omega
   rw [hk8]
   have hpw : 2 ^ (k + 6) = 256 * 2 ^ (k - 2) := by
    rw [show (256 : Nat) = 2 ^ 8 by rfl, ← Nat.pow_add]
    congr 1; omega
   have hq : R / 2 ^ (k - 2) < 256 := by
    rw [Nat.div_lt_iff_lt_mul (Nat.two_pow_pos _), ← hpw]; exact hR
   have hmod : R % 2 ^ (k - 2) < 2 ^ (k - 2) := Nat.mod_lt _ (Nat.two_pow_pos _)
   generalize R / 2 ^ (k - 2) = Q at *
   generalize R % 2 ^ (k - 2) = R3 at *
   (conv => whnf)
   refine ⟨by decide, ?_⟩
   (conv => whnf)
   refine .inl ?_
   intro g H7 hle8 hrd
   (conv => whnf)
   refine ⟨_, rfl, hrd, one_int _ _, ?_⟩
   (conv => whnf)
   refine ⟨by show (out.length + 1) * 2 ≤ _; omega, ?_⟩
   (conv => whnf)
   rw [wrap64 (x := (i : Int) + 1) (by omega) (by omega), wrapB]
   have hb8 : ((Q : Int) % 256) = ((UInt8.ofNat Q).toNat : Int) := by
    rw [UInt8.toNat_ofNat']; omega
   refine ⟨s.size - (i + 1), by omega, _, [bitB R3 (k - 2 : Nat), rB (out ++ [UInt8.ofNat Q])], [0, 2], ⟨i + 1, R3, k - 2, out ++ [UInt8.ofNat Q], by omega, by omega, hmod, by rw [List.length_append]; simp only [List.length_cons, List.length_nil]; omega, ?_, rfl, rfl, hle4.trans (hle7.trans hle8), rfl⟩, ?_⟩
   ·rw [← hdec]
    cases decG R3 (k - 2) (s.data.toList.drop (i + 1)) <;> simp [pre]
   ·refine ⟨rfl, ⟨rfl, ?_, trivial⟩, rfl, rfl, rfl, rfl, rfl, trivial⟩
    rw [show rB (out ++ [UInt8.ofNat Q]) = SB.row 5 1 (out.length + 1) (bCells out ++ [.int .u8 ((Q : Int) % 256)]) by
     unfold Bu.rB
     rw [bCells_snoc out (UInt8.ofNat Q) hb8, List.length_append]; rfl]
    rfl
 ·have h1 := of_decide_eq_false h1
  obtain rfl : i = s.size := by omega
  rw [List.drop_of_length_le (by omega), decG] at hdec
  refine br.of (fun h2 => ?_) (fun h2 => ?_) <;> (conv => whnf)
  ·have h2 := of_decide_eq_true h2
   rw [if_pos (.inl (by omega))] at hdec
   exact .inl ⟨hdec.symm, rfl, rfl⟩
  have h2 := of_decide_eq_false h2
  refine br.of (fun h3 => ?_) (fun h3 => ?_) <;> (conv => whnf)
  ·simp only [bne_iff_ne, ne_eq] at h3
   rw [if_pos (.inr (by omega))] at hdec
   exact .inl ⟨hdec.symm, rfl, rfl⟩
  ·simp only [bne_eq_false_iff_eq] at h3
   rw [if_neg (by omega)] at hdec
   have : decP s = some out := by rw [← hdec]; simp [pre]
   exact .inr ⟨out, r, k, this, rfl, rfl⟩
def RetD (s : ByteArray) (e : SE) (H' : Hp) : Prop :=
 (decP s = none ∧ e = .ret (.tu [.ce (.val (.slice none 0 0)), .ce (.val (.int .i64 10))])) ∨ (∃ L B m c, decP s = some L ∧ e = .ret (.tu [.ce (.val (.slice B m c)), .ce (.val (.int .i64 0))]) ∧ BytesAt H' B m L)
theorem dec_ (s : ByteArray) (hs : s.size ≤ 1000000) (H : Hp) : CallO Tryz.prog 174 [pv (.string s)] H [] fun e H' G' => RetD s e H' ∧ G' = [] := by
 cases hd : decP s with
 | none =>
  refine (dec0 s hs H).mono ?_
  rintro e H' G' hle (⟨h1, rfl, rfl⟩ | ⟨L, r, k, h1, _⟩)
  ·exact ⟨.inl ⟨h1, rfl⟩, rfl⟩
  ·rw [hd] at h1; cases h1
 | some L =>
  refine CallO.sub (CallO.frz (K := fun e H' G' => RetD s e H' ∧ ∃ b, G' = [b, .dead]) (dec0 s hs H) ?_) ?_
  ·rintro e H' G' hle (⟨h1, _⟩ | ⟨L2, r, k, h1, rfl, rfl⟩)
   ·rw [hd] at h1; cases h1
   refine ⟨1, 5, 1, _, _, rfl, fun hz => ?_, fun x H2 hle2 hfr => ?_⟩
   ·have : L2 = [] := List.eq_nil_of_length_eq_zero hz
    rw [this]; rfl
   obtain ⟨B, cc, rfl, hv⟩ := BytesAt.of_frozen rfl hfr
   exact ⟨.inr ⟨L2, B, _, cc, h1, rfl, hv⟩, _, rfl⟩
  ·rintro e H' G' hle ⟨hr, b, rfl⟩
   rcases hr with ⟨h1, rfl⟩ | ⟨L2, B, m, cc, h1, rfl, hv⟩
   ·exact ⟨_, [], [], rfl, trivial, rfl, .inl ⟨h1, rfl⟩, rfl⟩
   ·exact ⟨_, [], [], rfl, trivial, rfl, .inr ⟨L2, B, m, cc, h1, rfl, hv⟩, rfl⟩
end Go.Kx.En
