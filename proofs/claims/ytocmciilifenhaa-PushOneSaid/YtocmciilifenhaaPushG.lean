/- The document's Start and End. No condition of its own. -/
import Derived.Test.YtocmciilifenhaaPushF
namespace Go.Kx.Push
open Go.Proofs Go.Kx
set_option maxRecDepth 20000

theorem bod26 : Bodied Try.prog 26 := ⟨_, Try.func26, rfl, by kernel_rfl⟩
theorem bod45 : Bodied Try.prog 45 := ⟨_, Try.func45, rfl, by kernel_rfl⟩
theorem bod37 : Bodied Try.prog 37 := ⟨_, Try.func37, rfl, by kernel_rfl⟩
theorem bod38 : Bodied Try.prog 38 := ⟨_, Try.func38, rfl, by kernel_rfl⟩
theorem bod25 : Bodied Try.prog 25 := ⟨_, Try.func25, rfl, by kernel_rfl⟩
theorem bod23 : Bodied Try.prog 23 := ⟨_, Try.func23, rfl, by kernel_rfl⟩
theorem lnV_get (ls : List Ln) (n : Int) : ∃ s f d, getL ls n = (n, s, f, d) := by
  unfold getL
  cases h : ls.find? (fun x => decide (x.1 = n)) with
  | none => exact ⟨_, _, _, rfl⟩
  | some x =>
    have := List.find?_some h
    obtain ⟨a, s, f, d⟩ := x
    simp at this; subst this
    exact ⟨s, f, d, rfl⟩
/-- The document's lines and an error's number. -/
def mE (b c : Int) (A : Option Addr) (len cap : Nat) (r : Int) : SE := .ret (.tu [.ag [.val (.int .i64 b), .val (.int .i64 c), .val (.slice A len cap)], .ce (.val (.int .i64 r))])
def MRet (b c : Int) (ls : List Ln) (r : Int) (e : SE) (H' : Hp) : Prop := ∃ A len cap, e = mE b c A len cap r ∧ MOk H' A len ls
theorem refStart (b c : Int) (A : Option Addr) (len cap : Nat) (ls : List Ln) (n : Int) (jti : ByteArray) (H : Hp) (hm : MOk H A len ls) (hl : len ≤ 1000000) : CallO Try.prog 37 [mV b c A len cap, pv (.int .i64 n), pv (.string jti)] H [] fun e H' G' => G' = [] ∧
    (jti = ⟨#[]⟩ → MRet b c ls 10 e H') ∧ (jti ≠ ⟨#[]⟩ → (getL ls n).2.1 ≠ ⟨#[]⟩ → MRet b c ls 16 e H') ∧ (jti ≠ ⟨#[]⟩ → (getL ls n).2.1 = ⟨#[]⟩ → MRet b c (putL ls (n, jti, (getL ls n).2.2)) 0 e H') := by
  obtain ⟨s, f, d, hg⟩ := lnV_get ls n
  refine CallO.of_body tab Try.func37 rfl (nt := Try.f37.ntmps) rfl (by kernel_rfl) ?_
  conv => whnf
  refine ⟨bod26, CallS.use (get b c A len cap ls n H hm hl) [] rfl rfl trivial ?_⟩
  rintro e H' G' hle ⟨rfl, rfl, rfl⟩
  rw [hg]
  conv => whnf
  refine br.of (fun h1 => ?_) (fun h1 => ?_) <;> conv => whnf
  · rw [strEq_iff] at h1
    exact ⟨rfl, fun _ => ⟨A, len, cap, rfl, hm⟩, fun h => absurd h1 h, fun h => absurd h1 h⟩
  · rw [strEq_false] at h1
    refine br.of (fun h2 => ?_) (fun h2 => ?_) <;> conv => whnf
    · simp only [Bool.not_eq_true', strEq_false] at h2
      exact ⟨rfl, fun h => absurd h h1, fun _ _ => ⟨A, len, cap, rfl, hm⟩, fun _ h => absurd h h2⟩
    · simp only [Bool.not_eq_false', strEq_iff] at h2
      refine ⟨bod45, CallS.use (put b c A len cap ls (n, jti, f, d) H' hm hl) [] rfl rfl trivial ?_⟩
      rintro e H2 G' hle2 ⟨A', cap', rfl, h3, rfl⟩
      conv => whnf
      exact ⟨rfl, fun h => absurd h h1, fun _ h => absurd h2 h, fun _ _ => ⟨A', _, cap', rfl, h3⟩⟩
theorem refEnd (b c : Int) (A : Option Addr) (len cap : Nat) (ls : List Ln) (n : Int) (good : Bool) (now j : Int) (hr : rightB b c = true) (H : Hp) (hm : MOk H A len ls) (hl : len ≤ 1000000) (hf0 : 0 ≤ (getL ls n).2.2.1) (hf1 : (getL ls n).2.2.1 ≤ 1000000) :
    CallO Try.prog 38 [mV b c A len cap, pv (.int .i64 n), pv (.bool good), pv (.int .i64 now), pv (.int .i64 j)] H [] fun e H' G' => G' = [] ∧
    ((getL ls n).2.1 = ⟨#[]⟩ → MRet b c ls 16 e H') ∧ ((getL ls n).2.1 ≠ ⟨#[]⟩ → good = true → MRet b c (putL ls (n, ⟨#[]⟩, 0, 0)) 0 e H') ∧
    ((getL ls n).2.1 ≠ ⟨#[]⟩ → good = false → ¬ (0 ≤ j ∧ j ≤ 1000 ∧ 0 ≤ now ∧ now ≤ 1099511627776) → MRet b c ls 12 e H') ∧
    ((getL ls n).2.1 ≠ ⟨#[]⟩ → good = false → (0 ≤ j ∧ j ≤ 1000 ∧ 0 ≤ now ∧ now ≤ 1099511627776) → MRet b c (putL ls (n, ⟨#[]⟩, (getL ls n).2.2.1 + 1, dueN b c now ((getL ls n).2.2.1 + 1) j)) 0 e H') := by
  obtain ⟨s, f, d, hg⟩ := lnV_get ls n
  rw [hg] at hf0 hf1
  simp only at hf0 hf1
  refine CallO.of_body tab Try.func38 rfl (nt := Try.f38.ntmps) rfl (by kernel_rfl) ?_
  conv => whnf
  refine ⟨bod26, CallS.use (get b c A len cap ls n H hm hl) [] rfl rfl trivial ?_⟩
  rintro e H' G' hle ⟨rfl, rfl, rfl⟩
  rw [hg]
  conv => whnf
  refine br.of (fun h1 => ?_) (fun h1 => ?_) <;> conv => whnf
  · rw [strEq_iff] at h1
    exact ⟨rfl, fun _ => ⟨A, len, cap, rfl, hm⟩, fun h => absurd h1 h, fun h => absurd h1 h, fun h => absurd h1 h⟩
  · rw [strEq_false] at h1
    cases good with
    | true =>
      conv => whnf
      refine ⟨bod45, CallS.use (put b c A len cap ls (n, ⟨#[]⟩, 0, 0) H' hm hl) [] rfl rfl trivial ?_⟩
      rintro e H2 G' hle2 ⟨A', cap', rfl, h3, rfl⟩
      conv => whnf
      exact ⟨rfl, fun h => absurd h h1, fun _ _ => ⟨A', _, cap', rfl, h3⟩, fun _ h => (nomatch h), fun _ h => (nomatch h)⟩
    | false =>
      conv => whnf
      refine br.of (fun h2 => ?_) (fun h2 => ?_) <;> conv => whnf
      · simp only [decide_eq_true_eq] at h2
        exact ⟨rfl, fun h => absurd h h1, fun _ h => (nomatch h), fun _ _ _ => ⟨A, len, cap, rfl, hm⟩, fun _ _ h => absurd h.1 (by omega)⟩
      simp only [decide_eq_false_iff_not] at h2
      refine br.of (fun h3 => ?_) (fun h3 => ?_) <;> conv => whnf
      · simp only [decide_eq_true_eq] at h3
        exact ⟨rfl, fun h => absurd h h1, fun _ h => (nomatch h), fun _ _ _ => ⟨A, len, cap, rfl, hm⟩, fun _ _ h => absurd h.2.1 (by omega)⟩
      simp only [decide_eq_false_iff_not] at h3
      refine br.of (fun h4 => ?_) (fun h4 => ?_) <;> conv => whnf
      · simp only [decide_eq_true_eq] at h4
        exact ⟨rfl, fun h => absurd h h1, fun _ h => (nomatch h), fun _ _ _ => ⟨A, len, cap, rfl, hm⟩, fun _ _ h => absurd h.2.2.1 (by omega)⟩
      simp only [decide_eq_false_iff_not] at h4
      refine br.of (fun h5 => ?_) (fun h5 => ?_) <;> conv => whnf
      · simp only [decide_eq_true_eq] at h5
        exact ⟨rfl, fun h => absurd h h1, fun _ h => (nomatch h), fun _ _ _ => ⟨A, len, cap, rfl, hm⟩, fun _ _ h => absurd h.2.2.2 (by omega)⟩
      simp only [decide_eq_false_iff_not] at h5
      have hw : IntKind.i64.wrap (((n, s, f, d) : Ln).2.2.1 + 1) = f + 1 := wrap64 (by show -9223372036854775808 ≤ f + 1; omega) (by show f + 1 < 9223372036854775808; omega)
      have h6 := waitN_le (f := f + 1) hr (j := j) (by omega) (by omega)
      rw [hw]
      refine ⟨bod21, CallS.use (refWait b c (f + 1) j hr (by omega) (by omega) (by omega) (by omega) H') [] rfl rfl trivial ?_⟩
      rintro e H2 G' hle2 ⟨rfl, rfl, rfl⟩
      conv => whnf
      rw [wrap64 (x := now + waitN b c (f + 1) j) (by omega) (by omega)]
      have hj : 0 ≤ j ∧ j ≤ 1000 ∧ 0 ≤ now ∧ now ≤ 1099511627776 := by omega
      refine br.of (fun h7 => ?_) (fun h7 => ?_) <;> conv => whnf
      · simp only [decide_eq_true_eq] at h7
        rw [hw]
        have hd : dueN b c now (f + 1) j = 1099511627776 := by unfold dueN minB; split <;> omega
        refine ⟨bod45, CallS.use (put b c A len cap ls (n, ⟨#[]⟩, f + 1, 1099511627776) H2 hm hl) [] rfl rfl trivial ?_⟩
        rintro e H3 G' hle3 ⟨A', cap', rfl, h8, rfl⟩
        conv => whnf
        exact ⟨rfl, fun h => absurd h h1, fun _ h => (nomatch h), fun _ _ h => absurd hj h, fun _ _ _ => ⟨A', _, cap', rfl, by show MOk H3 A' _ (putL ls (n, ⟨#[]⟩, f + 1, dueN b c now (f + 1) j)); rw [hd]; exact h8⟩⟩
      · simp only [decide_eq_false_iff_not] at h7
        rw [hw]
        have hd : dueN b c now (f + 1) j = now + waitN b c (f + 1) j := by unfold dueN minB; split <;> omega
        refine ⟨bod45, CallS.use (put b c A len cap ls (n, ⟨#[]⟩, f + 1, now + waitN b c (f + 1) j) H2 hm hl) [] rfl rfl trivial ?_⟩
        rintro e H3 G' hle3 ⟨A', cap', rfl, h8, rfl⟩
        conv => whnf
        exact ⟨rfl, fun h => absurd h h1, fun _ h => (nomatch h), fun _ _ h => absurd hj h, fun _ _ _ => ⟨A', _, cap', rfl, by show MOk H3 A' _ (putL ls (n, ⟨#[]⟩, f + 1, dueN b c now (f + 1) j)); rw [hd]; exact h8⟩⟩
end Go.Kx.Push
