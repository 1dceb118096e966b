/- Scope texts: the reference's text of scopes. No condition of its own. -/
import Derived.Test.YtfchdibbjaeocaaDoorScC
namespace Go.Kx.Sco
open Go.Proofs Go.Kx Go.RowKit Go.Sort
set_option maxRecDepth 20000
set_option linter.unusedSimpArgs false
def sL (l : List UInt8) : ByteArray := ⟨l.toArray⟩
theorem sL_size (l : List UInt8) : (sL l).size = l.length := by show l.toArray.size = _; rw [List.size_toArray]
theorem sL_app (a b : List UInt8) : sL a ++ sL b = sL (a ++ b) := by
  apply ByteArray.ext
  show (sL a ++ sL b).data = (a ++ b).toArray
  rw [ByteArray.data_append]
  show a.toArray ++ b.toArray = _
  simp
theorem sL_list (l : List UInt8) : (sL l).data.toList = l := by unfold sL; simp
theorem sL_data (s : ByteArray) : sL s.data.toList = s := by unfold sL; cases s; simp
/-- Texts in one text. -/
def jnP : List (List UInt8) → List UInt8
  | [] => []
  | x :: r => x ++ r.flatMap fun y => 32 :: y
theorem jnP_take {L : List (List UInt8)} {i : Nat} {x : List UInt8} (h : L[i]? = some x) : jnP (L.take (i + 1)) = jnP (L.take i) ++ (if i = 0 then [] else [32]) ++ x := by
  cases L with
  | nil => simp at h
  | cons a r =>
    cases i with
    | zero => simp at h; subst h; simp [jnP]
    | succ i =>
      rw [List.take_succ_cons, List.take_succ_cons, jnP, jnP, List.take_add_one, show r[i]? = some x by simpa using h]
      simp [List.append_assoc]
theorem jnP_pre (L : List (List UInt8)) (i : Nat) : (jnP (L.take i)).length ≤ (jnP L).length := by
  have : jnP (L.take i) ++ (jnP L).drop (jnP (L.take i)).length = jnP L := by
    cases L with
    | nil => simp [jnP]
    | cons a r =>
      cases i with
      | zero => simp [jnP]
      | succ i =>
        rw [List.take_succ_cons, jnP, jnP]
        have h : r.flatMap (fun y => 32 :: y) = (r.take i).flatMap (fun y => 32 :: y) ++ (r.drop i).flatMap (fun y => 32 :: y) := by
          rw [← List.flatMap_append, List.take_append_drop]
        rw [h, ← List.append_assoc, List.drop_left]
  have := congrArg List.length this
  rw [List.length_append] at this
  omega
namespace RefN
theorem scope_ (L : List (List UInt8)) (hL : L.length ≤ 1000000) (hj : (jnP L).length ≤ 1000000) (B : Option Addr) (m c : Nat) (H : Hp) (hv : VAt H B m (stC L)) :
    CallO Tryd.prog 19 [pv (.slice B m c)] H [] fun e H' G' => e = .ret (pv (.string (sL (jnP L)))) ∧ H' = H ∧ G' = [] := by
  have hm : m = L.length := by have := hv.1; rw [stC_len] at this; exact this
  subst hm
  refine CallO.of_body tab Tryd.func19 rfl (nt := Tryd.f19.ntmps) rfl (by kernel_rfl) ?_
  (conv => whnf)
  refine WS.loop (fun k F H2 G => ∃ i : Nat, i ≤ L.length ∧ k = L.length - i ∧ F = [(0, pv (.slice B L.length c)), (3, pv (.string (sL (jnP (L.take i))))), (4, pv (.int .i64 i))] ∧ H2 = H ∧ G = []) (L.length + 1) ?_ ?_
  · refine ⟨L.length, by omega, _, _, [], ⟨0, by omega, rfl, rfl, rfl, rfl⟩, ?_⟩
    exact ⟨rfl, trivial, rfl, rfl, rfl, trivial⟩
  rintro k F H2 G hle ⟨i, hi, rfl, rfl, rfl, rfl⟩
  refine codeL.go tab ?_
  (conv => whnf)
  refine br.of (fun h1 => ?_) (fun h1 => ?_) <;> (conv => whnf)
  · have h1 := of_decide_eq_true h1
    have hil : i < L.length := by omega
    have hget : L[i]? = some (L[i]'hil) := List.getElem?_eq_getElem _
    generalize L[i]'hil = x at hget
    have hgc : (stC L)[i]? = some (.string (sL x)) := by unfold stC; simp [hget, sL]
    have hadr := hv.addr (by omega)
    have ho1 : (i : Int).toNat * 1 = i := by omega
    have hcell : RdC H2 B ((i : Int).toNat * 1) (.string (sL x)) := hv.get hgc ho1
    have hpre := jnP_pre L (i + 1)
    have htk := jnP_take hget
    rw [htk] at hpre
    simp only [List.length_append] at hpre
    refine br.of (fun h2 => ?_) (fun h2 => ?_) <;> (conv => whnf)
    · have h2 := of_decide_eq_true h2
      rw [if_neg (by omega)] at htk hpre
      refine ⟨by show (sL _).size + 1 ≤ _; rw [sL_size]; omega, ?_⟩
      (conv => whnf)
      refine ⟨⟨by omega, by omega⟩, hadr, ?_⟩
      (conv => whnf)
      refine ⟨_, hcell, ?_⟩
      (conv => whnf)
      have e32 : (⟨#[32]⟩ : ByteArray) = sL [32] := rfl
      rw [e32, sL_app]
      refine ⟨by rw [sL_size, sL_size, List.length_append]; simp only [List.length_cons, List.length_nil] at *; omega, ?_⟩
      rw [sL_app]
      (conv => whnf)
      rw [wrap64 (x := (i : Int) + 1) (by omega) (by omega)]
      refine ⟨L.length - (i + 1), by omega, _, _, [], ⟨i + 1, by omega, rfl, rfl, rfl, rfl⟩, ?_⟩
      rw [htk]
      exact ⟨rfl, trivial, rfl, rfl, rfl, trivial⟩
    · have h2 := of_decide_eq_false h2
      obtain rfl : i = 0 := by omega
      rw [if_pos rfl] at htk hpre
      refine ⟨⟨by omega, by omega⟩, hadr, ?_⟩
      (conv => whnf)
      refine ⟨_, hcell, ?_⟩
      (conv => whnf)
      refine ⟨by rw [sL_size, sL_size]; simp only [List.length_nil] at *; omega, ?_⟩
      rw [sL_app]
      (conv => whnf)
      refine ⟨L.length - (0 + 1), by omega, _, _, [], ⟨0 + 1, by omega, rfl, rfl, rfl, rfl⟩, ?_⟩
      rw [htk, List.append_nil]
      exact ⟨rfl, trivial, rfl, rfl, rfl, trivial⟩
  · have h1 := of_decide_eq_false h1
    obtain rfl : i = L.length := by omega
    rw [List.take_of_length_le (Nat.le_refl _)]
    exact ⟨rfl, rfl, rfl⟩
end RefN
end Go.Kx.Sco
