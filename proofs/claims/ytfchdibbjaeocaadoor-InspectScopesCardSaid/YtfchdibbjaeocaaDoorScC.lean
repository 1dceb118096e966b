/- Scope texts: the reference's scopes of a text. No condition of its own. -/
import Derived.Test.YtfchdibbjaeocaaDoorScB
namespace Go.Kx.Sco
open Go.Proofs Go.Kx Go.RowKit Go.Sort
set_option maxRecDepth 20000
set_option linter.unusedSimpArgs false
/-- A text put where it belongs, among texts. -/
def insP (x : List UInt8) : Bool → List (List UInt8) → List (List UInt8)
  | d, [] => if d then [] else [x]
  | d, o :: r => (if !d && !lessB o x then [x] else []) ++ (if o = x then [] else [o]) ++ insP x (d || !lessB o x) r
theorem insP_len (x : List UInt8) : ∀ (d : Bool) (l : List (List UInt8)), (insP x d l).length ≤ l.length + (if d then 0 else 1)
  | d, [] => by cases d <;> simp [insP]
  | d, o :: r => by
    have h1 := insP_len x d r
    have h2 := insP_len x true r
    unfold insP
    simp only [List.length_append, List.length_cons]
    have h3 : (if o = x then ([] : List (List UInt8)) else [o]).length ≤ 1 := by split <;> simp
    cases d <;> cases lessB o x <;> simp only [Bool.not_true, Bool.not_false, Bool.and_true, Bool.and_false, Bool.or_true, Bool.or_false, if_true, if_false, List.length_nil, List.length_cons, Bool.false_eq_true] at * <;> omega
theorem partsL_mem (c : UInt8) : ∀ (r cur : List UInt8), ∀ p ∈ partsL c cur r, p.length ≤ cur.length + r.length
  | [], cur => fun p hp => by simp [partsL] at hp; subst hp; simp
  | x :: r, cur => fun p hp => by
    unfold partsL at hp
    split at hp
    · rcases List.mem_cons.1 hp with rfl | hp
      · simp only [List.length_cons]; omega
      · have := partsL_mem c r [] p hp; simp only [List.length_cons, List.length_nil] at *; omega
    · have := partsL_mem c r (cur ++ [x]) p hp; simp only [List.length_append, List.length_cons, List.length_nil] at *; omega
def scP : List (List UInt8) → List (List UInt8) → Option (List (List UInt8))
  | out, [] => some out
  | out, x :: r => if RefN.isName ⟨x.toArray⟩ then scP (insP x false out) r else none
def scopesP (s : ByteArray) : Option (List (List UInt8)) :=
  if s.data.toList = [] then some [] else
  match scP [] (partsL 32 [] s.data.toList) with
  | none => none
  | some out => if 8 < out.length then none else some out
namespace RefN
def KS (s : ByteArray) (e : SE) (G' : List SB) : Prop :=
  (scopesP s = none ∧ e = .ret (.tu [.ce (.val (.slice none 0 0)), .ce (.val (.bool false))]) ∧ G' = []) ∨ (s.data.toList = [] ∧ e = .ret (.tu [.ce (.val (.slice none 0 0)), .ce (.val (.bool true))]) ∧ G' = []) ∨
  (∃ L, s.data.toList ≠ [] ∧ scopesP s = some L ∧ e = .ret (.tu [.ce (.self 0), .ce (.val (.bool true))]) ∧ G' = [.row 9 1 L.length (stC L)])
theorem scopes0 (s : ByteArray) (hs : s.size ≤ 10000) (H : Hp) : CallO Tryd.prog 17 [pv (.string s)] H [] fun e _ G' => KS s e G' := by
  refine CallO.of_body tab Tryd.func17 rfl (nt := Tryd.f17.ntmps) rfl (by kernel_rfl) ?_
  (conv => whnf)
  refine br.of (fun h1 => ?_) (fun h1 => ?_) <;> (conv => whnf)
  · rw [strEq_iff] at h1
    subst h1
    exact .inr (.inl ⟨rfl, rfl, rfl⟩)
  rw [strEq_false] at h1
  have hne0 : s.data.toList ≠ [] := fun h => h1 (by
    have : s.data = #[] := Array.toList_inj.1 h
    cases s; simpa using this)
  have hscp : scopesP s = match scP [] (partsL 32 [] s.data.toList) with
      | none => none
      | some out => if 8 < out.length then none else some out := by unfold scopesP; rw [if_neg hne0]
  refine ⟨⟨_, Tryd.func33, rfl, by kernel_rfl⟩, CallS.use (parts_ s (by omega) 32 H) [] rfl rfl trivial ?_⟩
  rintro e H1 G' hle1 ⟨⟨B, m, cc, rfl, hv⟩, rfl⟩
  have hpl := partsL_len 32 s.data.toList []
  have hsl : s.data.toList.length = s.size := by rw [Array.length_toList]; rfl
  have hpm := partsL_mem 32 s.data.toList []
  generalize partsL 32 [] s.data.toList = P at *
  have hm : m = P.length := by have := hv.1; rw [stC_len] at this; exact this
  subst hm
  (conv => whnf)
  refine WS.nilRow 4 9 1 rfl ?_
  (conv => whnf)
  refine WS.loop (fun k' F H3 G => ∃ (i : Nat) (out : List (List UInt8)), i ≤ P.length ∧ out.length ≤ i ∧ k' = P.length - i ∧ scP out (P.drop i) = scP [] P ∧ F = [(4, .si (.ce (.self 0))), (5, pv (.slice B P.length cc)), (6, pv (.int .i64 i))] ∧ H1.Le H3 ∧ G = [.row 9 1 out.length (stC out)]) (P.length + 1) ?_ ?_
  · refine ⟨P.length, by omega, _, _, [0], ⟨0, [], by omega, Nat.le_refl _, rfl, rfl, rfl, .refl _, rfl⟩, ?_⟩
    exact ⟨rfl, ⟨rfl, trivial⟩, rfl, rfl, rfl, trivial⟩
  rintro k' F H3 G hle3 ⟨i, out, hi, hol, rfl, hsc, rfl, hle4, rfl⟩
  refine codeL.go tab ?_
  (conv => whnf)
  refine br.of (fun h7 => ?_) (fun h7 => ?_) <;> (conv => whnf)
  · have h7 := of_decide_eq_true h7
    have hil : i < P.length := by omega
    have hget : (stC P)[i]? = some (.string ⟨(P[i]'hil).toArray⟩) := by unfold stC; simp [hil]
    have hdr : P.drop i = P[i]'hil :: P.drop (i + 1) := List.drop_eq_getElem_cons hil
    have hxm := hpm (P[i]'hil) (List.getElem_mem hil)
    generalize P[i]'hil = x at hget hdr hxm
    have hadr := hv.addr (by omega : 0 < P.length)
    have hcell : ∀ H' off, H1.Le H' → off = i → RdC H' B off (.string ⟨x.toArray⟩) := fun H' off h ho => (hv.mono h).get hget ho
    have hxs : (⟨x.toArray⟩ : ByteArray).size ≤ 1000000 := by show x.toArray.size ≤ _; rw [List.size_toArray]; simp only [List.length_nil] at hxm; omega
    refine ⟨⟨by omega, by omega⟩, hadr, ?_⟩
    (conv => whnf)
    have ho1 : (i : Int).toNat * 1 = i := by omega
    refine ⟨_, hcell _ _ hle4 ho1, ?_⟩
    (conv => whnf)
    refine ⟨⟨_, Tryd.func34, rfl, by kernel_rfl⟩, CallS.use (isName_ ⟨x.toArray⟩ hxs H3) [] rfl rfl trivial ?_⟩
    rintro e H4 G' hle5 ⟨rfl, rfl, rfl⟩
    rw [hdr, scP] at hsc
    cases hn : isName ⟨x.toArray⟩
    all_goals
      rw [hn] at hsc
      (conv => whnf)
    · exact .inl ⟨by rw [hscp, ← hsc]; rfl, rfl, rfl⟩
    refine WS.nilRow 7 9 1 rfl ?_
    (conv => whnf)
    refine WS.loop (fun k' F H3 G => ∃ (q : Nat) (d : Bool) (nx : List (List UInt8)), q ≤ out.length ∧ nx ++ insP x d (out.drop q) = insP x false out ∧ k' = out.length - q ∧ F = [(4, .si (.ce (.self 0))), (5, pv (.slice B P.length cc)), (6, pv (.int .i64 i)), (7, .si (.ce (.self 1))), (8, pv (.bool d)), (9, pv (.int .i64 q))] ∧ H1.Le H3 ∧ G = [.row 9 1 out.length (stC out), .row 9 1 nx.length (stC nx)]) (out.length + 1) ?_ ?_
    · refine ⟨out.length, by omega, _, _, [0, 1], ⟨0, false, [], by omega, rfl, rfl, rfl, hle4, rfl⟩, ?_⟩
      exact ⟨rfl, ⟨rfl, rfl, trivial⟩, rfl, rfl, rfl, rfl, rfl, rfl, trivial⟩
    rintro k' F H5 G hle6 ⟨q, d, nx, hq, hins, rfl, rfl, hle7, rfl⟩
    have hil2 := insP_len x false out
    have hnl : nx.length ≤ out.length + 1 := by rw [← hins, List.length_append] at hil2; simp only [Bool.false_eq_true, if_false] at hil2; omega
    refine codeL.go tab ?_
    cases d
    all_goals
      (conv => whnf)
      refine br.of (fun h8 => ?_) (fun h8 => ?_) <;> (conv => whnf)
    --INNER
    · have h8 := of_decide_eq_true h8
      have hql : q < out.length := by omega
      have hdo : out.drop q = out[q]'hql :: out.drop (q + 1) := List.drop_eq_getElem_cons hql
      have hgo : (stC out)[q]? = some (.string ⟨(out[q]'hql).toArray⟩) := by unfold stC; simp [hql]
      generalize out[q]'hql = o at hgo hdo
      rw [hdo, insP] at hins
      have hq1 : (stC out)[(q : Int).toNat * 1]? = some (.string ⟨o.toArray⟩) := by rw [show (q : Int).toNat * 1 = q by omega]; exact hgo
      refine WS.draw tab mixed (.take 0 (.take 1 (.take 2 (.take 3 (.take 4 (.take 5 (.take 6 (.take 7 (.take 8 (.take 9 (.take 10 (.take 11 (.take 12 .done))))))))))))) (by kernel_rfl) [] ?_
      (conv => whnf)
      refine ⟨⟨by omega, by omega⟩, ?_⟩
      (conv => whnf)
      refine ⟨_, hq1, ?_⟩
      (conv => whnf)
      refine ⟨⟨by omega, by omega⟩, hadr, ?_⟩
      (conv => whnf)
      refine ⟨_, hcell _ _ hle7 ho1, ?_⟩
      (conv => whnf)
      refine br.of (fun h10 => ?_) (fun h10 => ?_) <;> (conv => whnf)
      · have hlt : lessB o x = false := by simp only [Bool.not_eq_true'] at h10; exact h10
        refine ⟨⟨by omega, by omega⟩, hadr, ?_⟩
        (conv => whnf)
        refine ⟨_, hcell _ _ hle7 ho1, ?_⟩
        (conv => whnf)
        refine ⟨by decide, ?_⟩
        (conv => whnf)
        refine .inl ?_
        intro ga H6a hle8a hrd
        (conv => whnf)
        refine ⟨_, rfl, hrd, fun u hu => by rcases List.mem_singleton.1 hu with rfl; rfl, ?_⟩
        (conv => whnf)
        refine ⟨by show (nx.length + 1) * 17 ≤ _; omega, ?_⟩
        (conv => whnf)
        refine WS.draw tab mixed (.take 0 (.take 1 (.take 2 (.take 3 (.take 4 (.take 5 (.take 6 (.take 7 (.take 8 .done))))))))) (by kernel_rfl) [] ?_
        (conv => whnf)
        refine ⟨⟨by omega, by omega⟩, ?_⟩
        (conv => whnf)
        refine ⟨_, hq1, ?_⟩
        (conv => whnf)
        refine ⟨⟨by omega, by omega⟩, hadr, ?_⟩
        (conv => whnf)
        refine ⟨_, hcell _ _ (hle7.trans hle8a) ho1, ?_⟩
        (conv => whnf)
        refine br.of (fun h9 => ?_) (fun h9 => ?_) <;> (conv => whnf)
        · have hne : o ≠ x := fun h => by rw [h] at h9; simp [strEq_iff.2] at h9
          refine ⟨⟨by omega, by omega⟩, ?_⟩
          (conv => whnf)
          refine ⟨_, hq1, ?_⟩
          (conv => whnf)
          refine ⟨by decide, ?_⟩
          (conv => whnf)
          refine .inl ?_
          intro gb H6b hle8b hrd
          (conv => whnf)
          refine ⟨_, rfl, hrd, fun u hu => by rcases List.mem_singleton.1 hu with rfl; rfl, ?_⟩
          (conv => whnf)
          refine ⟨by show (nx.length + 1 + 1) * 17 ≤ _; omega, ?_⟩
          (conv => whnf)
          rw [wrap64 (x := (q : Int) + 1) (by omega) (by omega)]
          refine ⟨out.length - (q + 1), by omega, _, [.row 9 1 out.length (stC out), .row 9 1 (nx ++ [x] ++ [o]).length (stC (nx ++ [x] ++ [o]))], [0, 3], ⟨q + 1, true, nx ++ [x] ++ [o], by omega, by rw [← hins]; simp [hlt, hne], rfl, rfl, (hle7.trans hle8a).trans hle8b, rfl⟩, ?_⟩
          refine ⟨rfl, ⟨rfl, ?_, trivial⟩, rfl, rfl, rfl, rfl, rfl, rfl, trivial⟩
          rw [stC_snoc, stC_snoc, List.length_append, List.length_append]; rfl
        · have heq : o = x := by
            simp only [Bool.not_eq_false'] at h9
            have := congrArg (fun b : ByteArray => b.data.toList) (strEq_iff.1 h9)
            simpa using this
          rw [wrap64 (x := (q : Int) + 1) (by omega) (by omega)]
          refine ⟨out.length - (q + 1), by omega, _, [.row 9 1 out.length (stC out), .row 9 1 (nx ++ [x]).length (stC (nx ++ [x]))], [0, 2], ⟨q + 1, true, nx ++ [x], by omega, by rw [← hins]; subst heq; simp [hlt], rfl, rfl, hle7.trans hle8a, rfl⟩, ?_⟩
          refine ⟨rfl, ⟨rfl, ?_, trivial⟩, rfl, rfl, rfl, rfl, rfl, rfl, trivial⟩
          rw [stC_snoc, List.length_append]; rfl
      · have hlt : lessB o x = true := by simp only [Bool.not_eq_false'] at h10; exact h10
        refine WS.draw tab mixed (.take 0 (.take 1 (.take 2 (.take 3 (.take 4 (.take 5 (.take 6 (.take 7 (.take 8 .done))))))))) (by kernel_rfl) [] ?_
        (conv => whnf)
        refine ⟨⟨by omega, by omega⟩, ?_⟩
        (conv => whnf)
        refine ⟨_, hq1, ?_⟩
        (conv => whnf)
        refine ⟨⟨by omega, by omega⟩, hadr, ?_⟩
        (conv => whnf)
        refine ⟨_, hcell _ _ (hle7) ho1, ?_⟩
        (conv => whnf)
        refine br.of (fun h9 => ?_) (fun h9 => ?_) <;> (conv => whnf)
        · have hne : o ≠ x := fun h => by rw [h] at h9; simp [strEq_iff.2] at h9
          refine ⟨⟨by omega, by omega⟩, ?_⟩
          (conv => whnf)
          refine ⟨_, hq1, ?_⟩
          (conv => whnf)
          refine ⟨by decide, ?_⟩
          (conv => whnf)
          refine .inl ?_
          intro gb H6b hle8b hrd
          (conv => whnf)
          refine ⟨_, rfl, hrd, fun u hu => by rcases List.mem_singleton.1 hu with rfl; rfl, ?_⟩
          (conv => whnf)
          refine ⟨by show (nx.length + 1) * 17 ≤ _; omega, ?_⟩
          (conv => whnf)
          rw [wrap64 (x := (q : Int) + 1) (by omega) (by omega)]
          refine ⟨out.length - (q + 1), by omega, _, [.row 9 1 out.length (stC out), .row 9 1 (nx ++ [o]).length (stC (nx ++ [o]))], [0, 2], ⟨q + 1, false, nx ++ [o], by omega, by rw [← hins]; simp [hlt, hne], rfl, rfl, (hle7).trans hle8b, rfl⟩, ?_⟩
          refine ⟨rfl, ⟨rfl, ?_, trivial⟩, rfl, rfl, rfl, rfl, rfl, rfl, trivial⟩
          rw [stC_snoc, List.length_append]; rfl
        · have heq : o = x := by
            simp only [Bool.not_eq_false'] at h9
            have := congrArg (fun b : ByteArray => b.data.toList) (strEq_iff.1 h9)
            simpa using this
          rw [wrap64 (x := (q : Int) + 1) (by omega) (by omega)]
          refine ⟨out.length - (q + 1), by omega, _, [.row 9 1 out.length (stC out), .row 9 1 (nx).length (stC (nx))], [0, 1], ⟨q + 1, false, nx, by omega, by rw [← hins]; subst heq; simp [hlt], rfl, rfl, hle7, rfl⟩, ?_⟩
          refine ⟨rfl, ⟨rfl, ?_, trivial⟩, rfl, rfl, rfl, rfl, rfl, rfl, trivial⟩
          rfl
    · have h8 := of_decide_eq_false h8
      obtain rfl : q = out.length := by omega
      rw [List.drop_of_length_le (Nat.le_refl _), insP] at hins
      simp only [Bool.false_eq_true, if_false] at hins
      refine ⟨⟨by omega, by omega⟩, hadr, ?_⟩
      (conv => whnf)
      refine ⟨_, hcell _ _ hle7 ho1, ?_⟩
      (conv => whnf)
      refine ⟨by decide, ?_⟩
      (conv => whnf)
      refine .inl ?_
      intro ga H6a hle8a hrd
      (conv => whnf)
      refine ⟨_, rfl, hrd, fun u hu => by rcases List.mem_singleton.1 hu with rfl; rfl, ?_⟩
      (conv => whnf)
      refine ⟨by show (nx.length + 1) * 17 ≤ _; omega, ?_⟩
      (conv => whnf)
      rw [wrap64 (x := (i : Int) + 1) (by omega) (by omega)]
      refine ⟨P.length - (i + 1), by omega, _, [.row 9 1 (insP x false out).length (stC (insP x false out))], [2], ⟨i + 1, insP x false out, by omega, by simp only [Bool.false_eq_true, if_false] at hil2; omega, rfl, hsc, rfl, hle7.trans hle8a, rfl⟩, ?_⟩
      refine ⟨rfl, ⟨?_, trivial⟩, rfl, rfl, rfl, trivial⟩
      rw [← hins, stC_snoc, List.length_append]
      rfl
    · have h8 := of_decide_eq_true h8
      have hql : q < out.length := by omega
      have hdo : out.drop q = out[q]'hql :: out.drop (q + 1) := List.drop_eq_getElem_cons hql
      have hgo : (stC out)[q]? = some (.string ⟨(out[q]'hql).toArray⟩) := by unfold stC; simp [hql]
      generalize out[q]'hql = o at hgo hdo
      rw [hdo, insP] at hins
      have hq1 : (stC out)[(q : Int).toNat * 1]? = some (.string ⟨o.toArray⟩) := by rw [show (q : Int).toNat * 1 = q by omega]; exact hgo
      refine WS.draw tab mixed (.take 0 (.take 1 (.take 2 (.take 3 (.take 4 (.take 5 (.take 6 (.take 7 (.take 8 (.take 9 (.take 10 (.take 11 (.take 12 .done))))))))))))) (by kernel_rfl) [] ?_
      (conv => whnf)
      refine WS.draw tab mixed (.take 0 (.take 1 (.take 2 (.take 3 (.take 4 (.take 5 (.take 6 (.take 7 (.take 8 .done))))))))) (by kernel_rfl) [] ?_
      (conv => whnf)
      refine ⟨⟨by omega, by omega⟩, ?_⟩
      (conv => whnf)
      refine ⟨_, hq1, ?_⟩
      (conv => whnf)
      refine ⟨⟨by omega, by omega⟩, hadr, ?_⟩
      (conv => whnf)
      refine ⟨_, hcell _ _ (hle7) ho1, ?_⟩
      (conv => whnf)
      refine br.of (fun h9 => ?_) (fun h9 => ?_) <;> (conv => whnf)
      · have hne : o ≠ x := fun h => by rw [h] at h9; simp [strEq_iff.2] at h9
        refine ⟨⟨by omega, by omega⟩, ?_⟩
        (conv => whnf)
        refine ⟨_, hq1, ?_⟩
        (conv => whnf)
        refine ⟨by decide, ?_⟩
        (conv => whnf)
        refine .inl ?_
        intro gb H6b hle8b hrd
        (conv => whnf)
        refine ⟨_, rfl, hrd, fun u hu => by rcases List.mem_singleton.1 hu with rfl; rfl, ?_⟩
        (conv => whnf)
        refine ⟨by show (nx.length + 1) * 17 ≤ _; omega, ?_⟩
        (conv => whnf)
        rw [wrap64 (x := (q : Int) + 1) (by omega) (by omega)]
        refine ⟨out.length - (q + 1), by omega, _, [.row 9 1 out.length (stC out), .row 9 1 (nx ++ [o]).length (stC (nx ++ [o]))], [0, 2], ⟨q + 1, true, nx ++ [o], by omega, by rw [← hins]; simp [hne], rfl, rfl, (hle7).trans hle8b, rfl⟩, ?_⟩
        refine ⟨rfl, ⟨rfl, ?_, trivial⟩, rfl, rfl, rfl, rfl, rfl, rfl, trivial⟩
        rw [stC_snoc, List.length_append]; rfl
      · have heq : o = x := by
          simp only [Bool.not_eq_false'] at h9
          have := congrArg (fun b : ByteArray => b.data.toList) (strEq_iff.1 h9)
          simpa using this
        rw [wrap64 (x := (q : Int) + 1) (by omega) (by omega)]
        refine ⟨out.length - (q + 1), by omega, _, [.row 9 1 out.length (stC out), .row 9 1 (nx).length (stC (nx))], [0, 1], ⟨q + 1, true, nx, by omega, by rw [← hins]; subst heq; simp, rfl, rfl, hle7, rfl⟩, ?_⟩
        refine ⟨rfl, ⟨rfl, ?_, trivial⟩, rfl, rfl, rfl, rfl, rfl, rfl, trivial⟩
        rfl
    · have h8 := of_decide_eq_false h8
      obtain rfl : q = out.length := by omega
      rw [List.drop_of_length_le (Nat.le_refl _), insP] at hins
      simp only [if_true, List.append_nil] at hins
      rw [wrap64 (x := (i : Int) + 1) (by omega) (by omega)]
      refine ⟨P.length - (i + 1), by omega, _, [.row 9 1 (insP x false out).length (stC (insP x false out))], [1], ⟨i + 1, insP x false out, by omega, by simp only [Bool.false_eq_true, if_false] at hil2; omega, rfl, hsc, rfl, hle7, rfl⟩, ?_⟩
      refine ⟨rfl, ⟨?_, trivial⟩, rfl, rfl, rfl, trivial⟩
      rw [← hins]
      rfl
    --OUTER
  have h7 := of_decide_eq_false h7
  obtain rfl : i = P.length := by omega
  rw [List.drop_of_length_le (Nat.le_refl _), scP] at hsc
  rw [← hsc] at hscp
  refine br.of (fun h8 => ?_) (fun h8 => ?_) <;> (conv => whnf)
  · simp only [decide_eq_true_eq] at h8
    exact .inl ⟨by rw [hscp]; exact if_pos (by omega), rfl, rfl⟩
  · simp only [decide_eq_false_iff_not] at h8
    exact .inr (.inr ⟨out, hne0, by rw [hscp]; exact if_neg (by omega), rfl, rfl⟩)
/-- What the reference tells of a text's scopes. -/
def RetS (s : ByteArray) (e : SE) (H' : Hp) : Prop :=
  (scopesP s = none ∧ e = .ret (.tu [.ce (.val (.slice none 0 0)), .ce (.val (.bool false))])) ∨ (∃ L B m c, scopesP s = some L ∧ e = .ret (.tu [.ce (.val (.slice B m c)), .ce (.val (.bool true))]) ∧ VAt H' B m (stC L))
theorem scopes_ (s : ByteArray) (hs : s.size ≤ 10000) (H : Hp) : CallO Tryd.prog 17 [pv (.string s)] H [] fun e H' G' => RetS s e H' ∧ G' = [] := by
  by_cases h : s.data.toList ≠ [] ∧ ∃ L, scopesP s = some L
  · obtain ⟨h0, L, hL⟩ := h
    refine CallO.sub (CallO.frz (K := fun e H' G' => RetS s e H' ∧ G' = [.dead]) (scopes0 s hs H) ?_) ?_
    · rintro e H' G' hle (⟨h1, _⟩ | ⟨h1, _⟩ | ⟨L2, _, h2, rfl, rfl⟩)
      · rw [h1] at hL; cases hL
      · exact absurd h1 h0
      refine ⟨0, 9, 1, _, _, rfl, fun hz => ?_, fun x H2 hle2 hfr => ?_⟩
      · have : L2 = [] := List.eq_nil_of_length_eq_zero hz
        rw [this]; rfl
      obtain ⟨B, cc, rfl, hv⟩ := VAt.of_frozen (by rw [stC_len]) hfr
      exact ⟨.inr ⟨L2, B, _, cc, h2, rfl, hv⟩, rfl⟩
    · rintro e H' G' hle ⟨hr, rfl⟩
      rcases hr with ⟨h1, rfl⟩ | ⟨L2, B, m, cc, h1, rfl, hv⟩
      · exact ⟨_, [], [], rfl, trivial, rfl, .inl ⟨h1, rfl⟩, rfl⟩
      · exact ⟨_, [], [], rfl, trivial, rfl, .inr ⟨L2, B, m, cc, h1, rfl, hv⟩, rfl⟩
  · refine (scopes0 s hs H).mono ?_
    rintro e H' G' hle (⟨h1, rfl, rfl⟩ | ⟨h1, rfl, rfl⟩ | ⟨L2, h1, h2, _⟩)
    · exact ⟨.inl ⟨h1, rfl⟩, rfl⟩
    · exact ⟨.inr ⟨[], none, 0, 0, by unfold scopesP; rw [if_pos h1], rfl, rfl, fun _ => rfl, fun a e => (nomatch e)⟩, rfl⟩
    · exact absurd ⟨h1, L2, h2⟩ h
end RefN
end Go.Kx.Sco
