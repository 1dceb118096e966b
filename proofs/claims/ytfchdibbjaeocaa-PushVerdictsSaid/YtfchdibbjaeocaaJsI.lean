/- Values as texts: a member's value. No condition of its own. -/
import Derived.Test.YtfchdibbjaeocaaJsH
namespace Go.Kx.Js
open Go.Proofs Go.Kx Go.RowKit
set_option maxRecDepth 20000
def rowO (ms : Ms) (xs : List Value) : SB := .row 56 6 ms.length xs
theorem getP_none {ms : Ms} {s : ByteArray} (h : ∀ (i : Nat) (t : ByteArray) (j : J), (ms : List (ByteArray × J))[i]? = some (t, j) → t ≠ s) : getP ms s = none := by
  induction ms with
  | nil => rfl
  | cons x r ih =>
    obtain ⟨t, j⟩ := x
    show (if t = s then some j else getP r s) = none
    rw [if_neg (h 0 t j rfl)]
    exact ih fun i t j hi => h (i + 1) t j (by simpa using hi)
theorem getP_at {ms : List (ByteArray × J)} {s : ByteArray} {i : Nat} {j : J} (h0 : ∀ (k : Nat) (t : ByteArray) (j : J), k < i → ms[k]? = some (t, j) → t ≠ s) (h : ms[i]? = some (s, j)) : getP ms s = some j := by
  induction ms generalizing i with
  | nil => simp at h
  | cons x r ih =>
    obtain ⟨t, j'⟩ := x
    cases i with
    | zero =>
      simp at h
      obtain ⟨rfl, rfl⟩ := h
      exact if_pos rfl
    | succ i =>
      show (if t = s then some j' else getP r s) = _
      rw [if_neg (h0 0 t j' (by omega) rfl)]
      exact ih (i := i) (fun k t j hk hi => h0 (k + 1) t j (by omega) (by simpa using hi)) (by simpa using h)
theorem getOwn (ms : List (ByteArray × J)) (xs : List Value) (s : ByteArray) (hn : ms.length ≤ 1000000) (H : Hp) (hm : MsAt H ms xs) : CallO Try.prog 6 [.si (.ag [.val (.int .i64 6), .val (.bool false), .val (.string ⟨#[]⟩), .val (.slice none 0 0), .self 0]), pv (.string s)] H [rowO ms xs] fun e H' G' => H' = H ∧
    (∃ k y t A n c B m f, e = .ret (.tu [.ag [.val (.int .i64 k), .val (.bool y), .val (.string t), .val (.slice A n c), .val (.slice B m f)], .ce (.val (.bool (getP ms s).isSome))])) ∧ G' = [rowO ms xs] := by
  refine CallO.of_body tab Try.func6 rfl (nt := Try.f6.ntmps) rfl (by kernel_rfl) ?_
  (conv => whnf)
  refine WS.loop (fun k F H2 G => ∃ i : Nat, i ≤ ms.length ∧ (∀ (k : Nat) (t : ByteArray) (j : J), k < i → ms[k]? = some (t, j) → t ≠ s) ∧ k = ms.length - i ∧ F = [(1, pv (.string s)), (4, .si (.ce (.ptr 2 0))), (13, .si (.ce (.self 0))), (14, pv (.int .i64 ms.length)), (15, pv (.int .i64 i))] ∧ H2 = H ∧ G = [rowO ms xs, .dead, .box 27 [.val (.int .i64 0), .val (.bool false), .val (.string ⟨#[]⟩), .val (.slice none 0 0), .val (.slice none 0 0)]]) (ms.length + 1) ?_ ?_
  · refine ⟨ms.length, by omega, _, _, [0, 1, 2], ⟨0, by omega, fun k t j hk => absurd hk (by omega), rfl, rfl, rfl, rfl⟩, ?_⟩
    exact ⟨rfl, ⟨rfl, trivial, rfl, trivial⟩, rfl, rfl, rfl, rfl, rfl, trivial⟩
  rintro k F H2 G hle ⟨i, hi, hne, rfl, rfl, rfl, rfl⟩
  refine codeL.go tab ?_
  (conv => whnf)
  refine br.of (fun h1 => ?_) (fun h1 => ?_) <;> (conv => whnf)
  · have h1 := of_decide_eq_true h1
    refine ⟨⟨by omega, by omega⟩, ?_⟩
    (conv => whnf)
    have hil : i < ms.length := by omega
    have hget : ms[i]? = some ms[i] := List.getElem?_eq_getElem hil
    generalize ms[i] = tj at hget
    obtain ⟨t, j⟩ := tj
    obtain ⟨cs, hj, hcs⟩ := hm.get hget
    obtain ⟨A, n, c, B, m, d, rfl⟩ := hj.cells
    refine ⟨_, rfl, cells_at hcs (by show (i : Int).toNat * 6 = _; omega), ?_⟩
    (conv => whnf)
    refine br.of (fun h2 => ?_) (fun h2 => ?_) <;> (conv => whnf)
    · obtain rfl := strEq_iff.1 h2
      rw [getP_at hne hget]
      exact ⟨rfl, ⟨_, _, _, _, _, _, _, _, _, rfl⟩, rfl⟩
    · have h2 := strEq_false.1 h2
      rw [wrap64 (x := (i : Int) + 1) (by omega) (by omega)]
      refine ⟨ms.length - (i + 1), by omega, _, _, [0, 1, 2], ⟨i + 1, by omega, fun k t' j' hk hkt => ?_, rfl, rfl, rfl, rfl⟩, ?_⟩
      · rcases Nat.lt_or_ge k i with hki | hki
        · exact hne k t' j' hki hkt
        · obtain rfl : k = i := by omega
          rw [hget] at hkt
          injection hkt with hkt
          injection hkt with h3 h4
          subst h3; exact h2
      · exact ⟨rfl, ⟨rfl, trivial, rfl, trivial⟩, rfl, rfl, rfl, rfl, rfl, trivial⟩
  · have h1 := of_decide_eq_false h1
    rw [getP_none fun k t j hk => hne k t j (by have := (List.getElem?_eq_some_iff.1 hk).1; omega) hk]
    exact ⟨rfl, ⟨_, _, _, _, _, _, _, _, _, rfl⟩, rfl⟩
theorem RdV.addr {H : Hp} {B : Option Addr} {xs : List Value} (h : RdV H B xs) (hx : xs ≠ []) : ∃ b o, B = some ⟨b, o, none⟩ := by
  cases B with
  | none => exact absurd (h.1 rfl) hx
  | some a => obtain ⟨b, o, h1, _⟩ := h.2 a rfl; exact ⟨b, o, h1⟩
theorem RdV.cells {H : Hp} {B : Option Addr} {xs ys : List Value} {a m : Nat} (h : RdV H B xs) (hx : xs ≠ []) (hc : (xs.drop a).take m = ys) {off : Nat} (ho : off = a) : RdN H B off ys := by
  cases B with
  | none => exact absurd (h.1 rfl) hx
  | some q =>
    obtain ⟨b, o, h1, h2⟩ := h.2 q rfl
    refine ⟨b, o, h1, fun j x hj => ?_⟩
    have := h2 _ _ (cells_at hc rfl j x hj)
    rw [ho]
    rw [← this]
    congr 1; omega
/-- What is told of a member's value. -/
def RG (o : Option J) (e : SE) (H' : Hp) : Prop :=
  match o with
  | some j => ∃ k y t A n c B m d, e = .ret (.tu [.ag [.val (.int .i64 k), .val (.bool y), .val (.string t), .val (.slice A n c), .val (.slice B m d)], .ce (.val (.bool true))]) ∧ JAt H' j [.int .i64 k, .bool y, .string t, .slice A n c, .slice B m d]
  | none => e = .ret (.tu [.ag [.val (.int .i64 0), .val (.bool false), .val (.string ⟨#[]⟩), .val (.slice none 0 0), .val (.slice none 0 0)], .ce (.val (.bool false))])
def J.get (j : J) (s : ByteArray) : Option J := if j.kind = 6 then getP j.mems s else none
theorem get_ (j : J) (k : Int) (y : Bool) (t : ByteArray) (A : Option Addr) (n c : Nat) (B : Option Addr) (m d : Nat) (s : ByteArray) (H : Hp) (hj : JAt H j [.int .i64 k, .bool y, .string t, .slice A n c, .slice B m d]) (hn : j.mems.length ≤ 1000000) :
    CallO Try.prog 6 [agJ k y t A n c B m d, pv (.string s)] H [] fun e H' G' => H' = H ∧ RG (j.get s) e H' ∧ G' = [] := by
  cases hj with
  | mk h1 h2 h3 h4 h5 h6 =>
  rename_i js ms xs zs
  change ms.length ≤ 1000000 at hn
  refine CallO.of_body tab Try.func6 rfl (nt := Try.f6.ntmps) rfl (by kernel_rfl) ?_
  (conv => whnf)
  unfold J.get
  refine br.of (fun h7 => ?_) (fun h7 => ?_) <;> (conv => whnf)
  · simp only [bne_iff_ne, ne_eq] at h7
    refine ⟨rfl, ?_, rfl⟩
    show RG (if k = 6 then _ else _) _ _
    rw [if_neg h7]; rfl
  · simp only [bne_eq_false_iff_eq] at h7
    have hgo : ∀ (e : SE) (H' : Hp) (G' : List SB), RG (getP ms s) e H' → RG (if (J.mk k y t js ms).kind = 6 then getP (J.mk k y t js ms).mems s else none) e H' := fun e H' G' h => by
      show RG (if k = 6 then getP ms s else none) e H'
      rw [if_pos h7]; exact h
    subst h4
    refine WS.loop (fun k' F H2 G => ∃ i : Nat, i ≤ ms.length ∧ (∀ (k : Nat) (t : ByteArray) (j : J), k < i → ms[k]? = some (t, j) → t ≠ s) ∧ k' = ms.length - i ∧ F = [(1, pv (.string s)), (4, .si (.ce (.ptr 1 0))), (13, pv (.slice B ms.length d)), (14, pv (.int .i64 ms.length)), (15, pv (.int .i64 i))] ∧ H2 = H ∧ G = [.dead, .box 27 [.val (.int .i64 0), .val (.bool false), .val (.string ⟨#[]⟩), .val (.slice none 0 0), .val (.slice none 0 0)]]) (ms.length + 1) ?_ ?_
    · refine ⟨ms.length, by omega, _, _, [0, 1], ⟨0, by omega, fun k t j hk => absurd hk (by omega), rfl, rfl, rfl, rfl⟩, ?_⟩
      exact ⟨rfl, ⟨trivial, rfl, trivial⟩, rfl, rfl, rfl, rfl, rfl, trivial⟩
    rintro k' F H2 G hle ⟨i, hi, hne, rfl, rfl, rfl, rfl⟩
    refine codeL.go tab ?_
    (conv => whnf)
    refine br.of (fun h1 => ?_) (fun h1 => ?_) <;> (conv => whnf)
    · have h1 := of_decide_eq_true h1
      have hil : i < ms.length := by omega
      have hget : ms[i]? = some ms[i] := List.getElem?_eq_getElem hil
      generalize ms[i] = tj at hget
      obtain ⟨t', j⟩ := tj
      obtain ⟨cs, hj, hcs⟩ := h5.get hget
      obtain ⟨A2, n2, c2, B2, m2, d2, rfl⟩ := hj.cells
      have hne0 : zs ≠ [] := fun h0 => by have := h5.length; rw [h0] at this; simp at this; omega
      refine ⟨⟨by omega, by omega⟩, h6.addr hne0, ?_⟩
      (conv => whnf)
      refine ⟨_, rfl, h6.cells hne0 hcs (by show (i : Int).toNat * 6 = _; omega), ?_⟩
      (conv => whnf)
      refine br.of (fun h2 => ?_) (fun h2 => ?_) <;> (conv => whnf)
      · obtain rfl := strEq_iff.1 h2
        refine ⟨rfl, hgo _ _ [] ?_, rfl⟩
        rw [getP_at hne hget]
        exact ⟨_, _, _, _, _, _, _, _, _, rfl, hj⟩
      · have h2 := strEq_false.1 h2
        rw [wrap64 (x := (i : Int) + 1) (by omega) (by omega)]
        refine ⟨ms.length - (i + 1), by omega, _, _, [0, 1], ⟨i + 1, by omega, fun k t' j' hk hkt => ?_, rfl, rfl, rfl, rfl⟩, ?_⟩
        · rcases Nat.lt_or_ge k i with hki | hki
          · exact hne k t' j' hki hkt
          · obtain rfl : k = i := by omega
            rw [hget] at hkt
            injection hkt with hkt
            injection hkt with h3 h4
            subst h3; exact h2
        · exact ⟨rfl, ⟨trivial, rfl, trivial⟩, rfl, rfl, rfl, rfl, rfl, trivial⟩
    · have h1 := of_decide_eq_false h1
      refine ⟨rfl, hgo _ _ [] ?_, rfl⟩
      rw [getP_none fun k t j hk => hne k t j (by have := (List.getElem?_eq_some_iff.1 hk).1; omega) hk]
      exact rfl
end Go.Kx.Js
