/- Scope texts: the library's Join of texts that are read alone. No condition of its own. -/
import Derived.Test.YtfchdibbjaeocaaDoorScP
import Derived.Test.YtfchdibbjaeocaaDoorGrB
import Derived.Lib.Join
namespace Go.Kx.Sco
open Go.Proofs Go.Kx Go.RowKit Go.Sort Go.Kx.Bu
set_option maxRecDepth 20000
set_option linter.unusedSimpArgs false
namespace Pg
theorem quo8 (m : Nat) (h1 : 2 ≤ m) (h8 : m ≤ 8) : 2 ≤ Int.tdiv 9223372036854775807 ((m : Int) - 1) := by
  rcases (by omega : m = 2 ∨ m = 3 ∨ m = 4 ∨ m = 5 ∨ m = 6 ∨ m = 7 ∨ m = 8) with rfl | rfl | rfl | rfl | rfl | rfl | rfl <;> decide
def lens (L : List (List UInt8)) : Nat := (L.map List.length).sum
theorem lens_take {L : List (List UInt8)} {i : Nat} {x : List UInt8} (h : L[i]? = some x) : lens (L.take (i + 1)) = lens (L.take i) + x.length := by
  unfold lens
  rw [List.take_add_one, h]; simp
theorem lens_pre : ∀ (L : List (List UInt8)) (i : Nat), lens (L.take i) ≤ lens L
  | [], i => by simp [lens]
  | x :: r, 0 => by simp [lens]
  | x :: r, i + 1 => by
    have := lens_pre r i
    unfold lens at *
    simp only [List.take_succ_cons, List.map_cons, List.sum_cons] at *
    omega
theorem lens_mul : ∀ (L : List (List UInt8)), (∀ l ∈ L, l.length ≤ 10000) → lens L ≤ 10000 * L.length
  | [], _ => by simp [lens]
  | x :: r, h => by
    have h1 := lens_mul r fun l hl => h l (List.mem_cons_of_mem _ hl)
    have h2 := h x (by simp)
    unfold lens at *
    simp only [List.map_cons, List.sum_cons, List.length_cons] at *
    omega
theorem lens_le {L : List (List UInt8)} (hL : L.length ≤ 8) (h : ∀ l ∈ L, l.length ≤ 10000) : lens L ≤ 80000 := by
  have := lens_mul L h
  omega
theorem jn_len : ∀ (L : List (List UInt8)), (jnP L).length ≤ lens L + L.length
  | [] => by simp [jnP]
  | x :: r => by
    have h : ∀ r : List (List UInt8), (r.flatMap fun y => 32 :: y).length = lens r + r.length := by
      intro r
      induction r with
      | nil => simp [lens]
      | cons y t ih =>
        rw [List.flatMap_cons, List.length_append, ih]
        unfold lens
        simp only [List.map_cons, List.sum_cons, List.length_cons]
        omega
    rw [jnP, List.length_append, h r]
    unfold lens
    simp only [List.map_cons, List.sum_cons, List.length_cons]
    omega
theorem join_ (L : List (List UInt8)) (hL : L.length ≤ 8) (hx : ∀ l ∈ L, l.length ≤ 10000) (B : Option Addr) (c : Nat) (hc : L.length ≤ c) (H : Hp) (hv : VAt H B L.length (stC L)) :
    CallO Tryd.prog 35 [pv (.slice B L.length c), pv (.string ⟨#[32]⟩)] H [] fun e H' G' => e = .ret (pv (.string (sL (jnP L)))) ∧ H.Le H' ∧ G' = [] := by
  refine CallO.of_body tab Tryd.func35 rfl (nt := Tryd.f35.ntmps) rfl (by kernel_rfl) ?_
  (conv => whnf)
  refine br.of (fun h1 => ?_) (fun h1 => ?_) <;> (conv => whnf)
  · simp only [beq_iff_eq] at h1
    have : L = [] := List.eq_nil_of_length_eq_zero (by omega)
    rw [this]
    exact ⟨rfl, .refl _, rfl⟩
  simp only [beq_eq_false_iff_ne, ne_eq] at h1
  have hadr := hv.addr (by omega)
  refine br.of (fun h2 => ?_) (fun h2 => ?_) <;> (conv => whnf)
  · simp only [beq_iff_eq] at h2
    match L, hL with
    | [x], _ =>
      refine ⟨⟨by omega, by show (0 : Int) < ((1 : Nat) : Int); omega⟩, hadr, ?_⟩
      (conv => whnf)
      refine ⟨_, hv.get (i := 0) rfl rfl, ?_⟩
      (conv => whnf)
      refine ⟨?_, .refl _, rfl⟩
      simp only [jnP, List.flatMap_nil, List.append_nil]; rfl
    | [], _ => simp at h2
    | x :: y :: r, _ => simp at h2; omega
  simp only [beq_eq_false_iff_ne, ne_eq] at h2
  have hq := quo8 L.length (by omega) hL
  have hq2 : Int.tdiv 9223372036854775807 ((L.length : Int) - 1) ≤ 9223372036854775807 := by
    rcases (by omega : L.length = 2 ∨ L.length = 3 ∨ L.length = 4 ∨ L.length = 5 ∨ L.length = 6 ∨ L.length = 7 ∨ L.length = 8) with h | h | h | h | h | h | h <;> rw [h] <;> decide
  rw [wrap64 (x := (L.length : Int) - 1) (by omega) (by omega)]
  refine ⟨by omega, ?_⟩
  generalize hQ : Int.tdiv 9223372036854775807 ((L.length : Int) - 1) = Q at *
  (conv => whnf)
  rw [wrap64 (x := Q) (by omega) (by omega)]
  refine br.of (fun h3 => ?_) (fun h3 => ?_) <;> (conv => whnf)
  · have h3 := of_decide_eq_true h3
    have : Q ≤ 1 := h3
    omega
  clear h3
  have hn0 : IntKind.i64.wrap (0 + IntKind.i64.wrap (((⟨#[32]⟩ : ByteArray).size : Int) * IntKind.i64.wrap ((L.length : Int) - 1))) = ((L.length - 1 : Nat) : Int) := by
    show IntKind.i64.wrap (0 + IntKind.i64.wrap ((1 : Int) * IntKind.i64.wrap ((L.length : Int) - 1))) = _
    rw [wrap64 (x := (L.length : Int) - 1) (by omega) (by omega), wrap64 (x := (1 : Int) * ((L.length : Int) - 1)) (by omega) (by omega), wrap64 (by omega) (by omega)]
    omega
  rw [hn0]
  refine WS.loop (fun k F H2 G => ∃ i : Nat, i ≤ L.length ∧ k = L.length - i ∧ F = [(0, pv (.slice B L.length c)), (1, pv (.string ⟨#[32]⟩)), (5, pv (.int .i64 ((L.length - 1 + lens (L.take i) : Nat) : Int))), (39, pv (.slice B L.length c)), (40, pv (.int .i64 L.length)), (41, pv (.int .i64 i))] ∧ H2 = H ∧ G = []) (L.length + 1) ?_ ?_
  · refine ⟨L.length, by omega, _, _, [], ⟨0, by omega, rfl, rfl, rfl, rfl⟩, ?_⟩
    exact ⟨rfl, trivial, rfl, rfl, rfl, rfl, rfl, rfl, trivial⟩
  rintro k F H2 G hle ⟨i, hi, rfl, rfl, rfl, rfl⟩
  have hlen := lens_le hL hx
  have hlp := lens_pre L
  refine codeL.go tab ?_
  (conv => whnf)
  refine br.of (fun h4 => ?_) (fun h4 => ?_) <;> (conv => whnf)
  · have h4 := of_decide_eq_true h4
    have hil : i < L.length := by omega
    have hget : L[i]? = some (L[i]'hil) := List.getElem?_eq_getElem _
    generalize L[i]'hil = x at hget
    have hgc : (stC L)[i]? = some (.string (sL x)) := by unfold stC; simp [hget, sL]
    have ho1 : (i : Int).toNat * 1 = i := by omega
    have hcell : RdC H2 B ((i : Int).toNat * 1) (.string (sL x)) := hv.get hgc ho1
    have htk := lens_take hget
    have hpre := hlp (i + 1)
    refine ⟨⟨by omega, by omega⟩, hadr, ?_⟩
    (conv => whnf)
    refine ⟨_, hcell, ?_⟩
    (conv => whnf)
    have hxs := sL_size x
    generalize hNN : ((L.length - 1 + lens (L.take i) : Nat) : Int) = N at *
    rw [wrap64 (x := 9223372036854775807 - N) (by omega) (by omega)]
    refine br.of (fun h5 => ?_) (fun h5 => ?_) <;> (conv => whnf)
    · have h5 := of_decide_eq_true h5
      omega
    clear h5
    rw [wrap64 (x := N + ((sL x).size : Int)) (by omega) (by omega), wrap64 (x := (i : Int) + 1) (by omega) (by omega)]
    refine ⟨L.length - (i + 1), by omega, _, _, [], ⟨i + 1, by omega, rfl, rfl, rfl, rfl⟩, ?_⟩
    have hN2 : N + ((sL x).size : Int) = ((L.length - 1 + lens (L.take (i + 1)) : Nat) : Int) := by rw [htk]; omega
    rw [hN2]
    exact ⟨rfl, trivial, rfl, rfl, rfl, rfl, rfl, rfl, trivial⟩
  · have h4 := of_decide_eq_false h4
    obtain rfl : i = L.length := by omega
    rw [List.take_of_length_le (Nat.le_refl _)]
    have hjl := jn_len L
    refine ⟨⟨_, Tryd.func46, rfl, by kernel_rfl⟩, CallS.use (Grow_ (L.length - 1 + lens L) (by omega) (by omega) H2) [0] rfl rfl ⟨rfl, trivial⟩ ?_⟩
    rintro e H3 G' hle3 ⟨rfl, rfl, rfl⟩
    (conv => whnf)
    obtain ⟨x0, r0, hLr⟩ : ∃ x0 r0, L = x0 :: r0 := by
      cases L with
      | nil => simp at h1
      | cons a r => exact ⟨a, r, rfl⟩
    have hg0 : RdC H3 B ((0 : Int).toNat * 1) (.string (sL x0)) := hv.get (i := 0) (by rw [hLr]; rfl) rfl
    refine ⟨⟨by omega, by omega⟩, hadr, ?_⟩
    (conv => whnf)
    refine ⟨_, hg0, ?_⟩
    (conv => whnf)
    have hx0 := hx x0 (by rw [hLr]; simp)
    refine ⟨⟨_, Tryd.func47, rfl, by kernel_rfl⟩, CallS.use (writeString true [] (sL x0) (by simp) (by rw [sL_size]; omega) H3) [0, 1] rfl rfl ⟨rfl, rfl, trivial⟩ ?_⟩
    rintro e H4 G' hle4 ⟨rfl, hl4, rfl⟩
    (conv => whnf)
    refine ⟨⟨by omega, by omega⟩, ?_⟩
    (conv => whnf)
    obtain ⟨gb, go, hB⟩ := hadr
    have hsub : subA B c 1 1 = some ⟨gb, go + 1, none⟩ := by
      rw [hB]
      unfold subA
      rw [if_neg (by omega)]
      rfl
    refine WS.loop (fun k F H5 G => ∃ i : Nat, i ≤ L.length - 1 ∧ k = L.length - 1 - i ∧ F = [(1, pv (.string ⟨#[32]⟩)), (8, .si (.ce (.ptr 0 0))), (63, pv (.slice (subA B c 1 1) (L.length - 1) (c - 1))), (64, pv (.int .i64 ((L.length - 1 : Nat) : Int))), (65, pv (.int .i64 i))] ∧ H4.Le H5 ∧ G = [bB true (.self 2), .dead, rB (jnP (L.take (i + 1)))]) (L.length - 1 + 1) ?_ ?_
    · refine ⟨L.length - 1, by omega, _, _, [0, 1, 2], ⟨0, by omega, rfl, rfl, .refl _, rfl⟩, ?_⟩
      have e0 : jnP (L.take 1) = [] ++ (sL x0).data.toList := by rw [hLr, sL_list]; simp [jnP]
      rw [e0]
      exact ⟨rfl, ⟨rfl, trivial, rfl, trivial⟩, rfl, rfl, rfl, rfl, rfl, trivial⟩
    rintro k F H5 G hle5 ⟨i, hi, rfl, rfl, hle6, rfl⟩
    refine codeL.go tab ?_
    (conv => whnf)
    refine br.of (fun h5 => ?_) (fun h5 => ?_) <;> (conv => whnf)
    · have h5 := of_decide_eq_true h5
      have hil : i + 1 < L.length := by omega
      have hget : L[i + 1]? = some (L[i + 1]'hil) := List.getElem?_eq_getElem _
      generalize L[i + 1]'hil = y at hget
      have hgc : (stC L)[i + 1]? = some (.string (sL y)) := by unfold stC; simp [hget, sL]
      have hyl := hx y (List.mem_of_getElem? hget)
      have hcell : RdC H5 (subA B c 1 1) ((i : Int).toNat * 1) (.string (sL y)) := by
        obtain ⟨b1, o1, e1, e2⟩ := (hv.mono (hl4.trans hle6)).get hgc rfl
        rw [hB] at e1
        injection e1 with e1
        injection e1 with e3 e4
        subst e3 e4
        refine ⟨_, _, hsub, ?_⟩
        rw [← e2]; congr 1; omega
      have htk := jnP_take hget
      rw [if_neg (by omega)] at htk
      have hpre := jnP_pre L (i + 1 + 1)
      rw [htk] at hpre
      simp only [List.length_append, List.length_cons, List.length_nil] at hpre
      refine ⟨⟨by omega, by omega⟩, ⟨_, _, hsub⟩, ?_⟩
      (conv => whnf)
      refine ⟨_, hcell, ?_⟩
      (conv => whnf)
      refine ⟨⟨_, Tryd.func47, rfl, by kernel_rfl⟩, CallS.use (writeString true (jnP (L.take (i + 1))) ⟨#[32]⟩ (by omega) (by decide) H5) [0, 2] rfl rfl ⟨rfl, rfl, trivial⟩ ?_⟩
      rintro e H6 G' hle7 ⟨rfl, hl7, rfl⟩
      (conv => whnf)
      refine ⟨⟨_, Tryd.func47, rfl, by kernel_rfl⟩, CallS.use (writeString true (jnP (L.take (i + 1)) ++ [32]) (sL y) (by simp only [List.length_append, List.length_cons, List.length_nil]; omega) (by rw [sL_size]; omega) H6) [0, 3] rfl rfl ⟨rfl, rfl, trivial⟩ ?_⟩
      rintro e H7 G' hle8 ⟨rfl, hl8, rfl⟩
      (conv => whnf)
      rw [wrap64 (x := (i : Int) + 1) (by omega) (by omega)]
      refine ⟨L.length - 1 - (i + 1), by omega, _, _, [0, 1, 4], ⟨i + 1, by omega, rfl, rfl, hle6.trans (hl7.trans hl8), rfl⟩, ?_⟩
      have e0 : jnP (L.take (i + 1 + 1)) = jnP (L.take (i + 1)) ++ [32] ++ (sL y).data.toList := by rw [htk, sL_list]
      rw [e0]
      exact ⟨rfl, ⟨rfl, trivial, rfl, trivial⟩, rfl, rfl, rfl, rfl, rfl, trivial⟩
    · have h5 := of_decide_eq_false h5
      obtain rfl : i = L.length - 1 := by omega
      have ht : L.take (L.length - 1 + 1) = L := List.take_of_length_le (by omega)
      rw [ht]
      refine ⟨⟨_, Tryd.func48, rfl, by kernel_rfl⟩, CallS.use (string_ true (jnP L) (by omega) H5) [0, 2] rfl rfl ⟨rfl, rfl, trivial⟩ ?_⟩
      rintro e H6 G' hle7 ⟨rfl, rfl, hG⟩
      rcases hG with rfl | rfl
      all_goals
        (conv => whnf)
        exact ⟨rfl, hl4.trans hle6, rfl⟩
end Pg
end Go.Kx.Sco
