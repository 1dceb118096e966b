/- A scheduler's Start and End. No condition of its own. -/
import Derived.Test.YtocmciilifenhaaPushC
namespace Go.Kx.Push
open Go.Proofs Go.Kx
set_option maxRecDepth 20000

theorem lf_upd' (b c : Int) (cnt : Nat) (pl : Lines) (n : Int) (x : ByteArray × Int × Int) : [.box 86 [.val (.int .i64 b), .val (.int .i64 c), .self 1], .map (.int .i64) cnt (updM (lf pl) (.int .i64 n) (lineV x))] = pushG b c cnt (updL pl n x) := by
  rw [lf_upd]; rfl
theorem start (b c : Int) (cnt : Nat) (pl : Lines) (n : Int) (jti : ByteArray) (H : Hp) : CallO Try.prog 29 [.si (.ce (.ptr 0 0)), pv (.int .i64 n), pv (.string jti)] H (pushG b c cnt pl) fun e H' G' => H' = H ∧
    ((jti = ⟨#[]⟩ → e = .ret (pv (.int .i64 10)) ∧ G' = pushG b c cnt pl) ∧ (jti ≠ ⟨#[]⟩ → (lineOf pl n).1 ≠ ⟨#[]⟩ → e = .ret (pv (.int .i64 16)) ∧ G' = pushG b c cnt pl) ∧
     (jti ≠ ⟨#[]⟩ → (lineOf pl n).1 = ⟨#[]⟩ → e = .ret (pv (.int .i64 0)) ∧ ∃ cnt', G' = pushG b c cnt' (updL pl n (jti, (lineOf pl n).2)))) := by
  refine CallO.of_body tab Try.func29 rfl (nt := Try.f29.ntmps) rfl (by kernel_rfl) ?_
  conv => whnf
  cases hpl : pl n with
  | none =>
    refine ⟨none, lf_none hpl, ?_⟩
    rw [lineOf_none hpl]
    conv => whnf
    refine br.of (fun h1 => ?_) (fun h1 => ?_) <;> conv => whnf
    · rw [strEq_iff] at h1
      exact ⟨rfl, fun _ => ⟨rfl, rfl⟩, fun h => absurd h1 h, fun h => absurd h1 h⟩
    · rw [strEq_false] at h1
      refine WS.draw tab mixed (.take 0 (.take 1 (.take 2 (.take 3 (.take 4 (.take 5 (.alt 6 .done .no))))))) (by kernel_rfl) [1] ?_
      conv => whnf
      refine ⟨?_, trivial⟩
      conv => whnf
      refine ⟨fun h2 => ?_, fun h2 => absurd (lf_none hpl) h2⟩
      conv => whnf
      refine ⟨⟨rfl, rfl, trivial⟩, ?_⟩
      conv => whnf
      exact ⟨rfl, fun h => absurd h h1, fun _ h => absurd rfl h, fun _ _ => ⟨rfl, cnt + 1, by rw [← lf_upd']; rfl⟩⟩
  | some x =>
    obtain ⟨x1, x2, x3⟩ := x
    refine ⟨_, lf_some hpl, ?_⟩
    rw [lineOf_some hpl]
    conv => whnf
    refine br.of (fun h1 => ?_) (fun h1 => ?_) <;> conv => whnf
    · rw [strEq_iff] at h1
      exact ⟨rfl, fun _ => ⟨rfl, rfl⟩, fun h => absurd h1 h, fun h => absurd h1 h⟩
    · rw [strEq_false] at h1
      refine br.of (fun h2 => ?_) (fun h2 => ?_) <;> conv => whnf
      · simp only [Bool.not_eq_true', strEq_false] at h2
        exact ⟨rfl, fun h => absurd h h1, fun _ _ => ⟨rfl, rfl⟩, fun _ h => absurd h h2⟩
      · simp only [Bool.not_eq_false', strEq_iff] at h2
        refine WS.draw tab mixed (.take 0 (.take 1 (.take 2 (.take 3 (.take 4 (.take 5 (.alt 6 .done .no))))))) (by kernel_rfl) [1] ?_
        conv => whnf
        refine ⟨?_, trivial⟩
        conv => whnf
        refine ⟨fun h2 => absurd h2 (lf_ne_none hpl), fun _ => ?_⟩
        conv => whnf
        refine ⟨⟨rfl, rfl, trivial⟩, ?_⟩
        conv => whnf
        exact ⟨rfl, fun h => absurd h h1, fun _ h => absurd h2 h, fun _ _ => ⟨rfl, cnt, by rw [← lf_upd']; rfl⟩⟩

theorem lf_del' (b c : Int) (cnt : Nat) (pl : Lines) (n : Int) : [.box 86 [.val (.int .i64 b), .val (.int .i64 c), .self 1], .map (.int .i64) cnt (delM (lf pl) (.int .i64 n))] = pushG b c cnt (delL pl n) := by
  rw [lf_del]; rfl
theorem end_ (b c : Int) (cnt : Nat) (pl : Lines) (n : Int) (good : Bool) (now j : Int) (hr : rightB b c = true) (hf0 : 0 ≤ (lineOf pl n).2.1) (hf1 : (lineOf pl n).2.1 ≤ 1000000) (H : Hp) :
    CallO Try.prog 30 [.si (.ce (.ptr 0 0)), pv (.int .i64 n), pv (.bool good), pv (.int .i64 now), pv (.int .i64 j)] H (pushG b c cnt pl) fun e H' G' => H' = H ∧
    ((lineOf pl n).1 = ⟨#[]⟩ → e = .ret (pv (.int .i64 16)) ∧ G' = pushG b c cnt pl) ∧ ((lineOf pl n).1 ≠ ⟨#[]⟩ → good = true → e = .ret (pv (.int .i64 0)) ∧ ∃ cnt', G' = pushG b c cnt' (delL pl n)) ∧
    ((lineOf pl n).1 ≠ ⟨#[]⟩ → good = false → ¬ (0 ≤ j ∧ j ≤ 1000 ∧ 0 ≤ now ∧ now ≤ 1099511627776) → e = .ret (pv (.int .i64 12)) ∧ G' = pushG b c cnt pl) ∧
    ((lineOf pl n).1 ≠ ⟨#[]⟩ → good = false → (0 ≤ j ∧ j ≤ 1000 ∧ 0 ≤ now ∧ now ≤ 1099511627776) → e = .ret (pv (.int .i64 0)) ∧ ∃ cnt', G' = pushG b c cnt' (updL pl n (⟨#[]⟩, (lineOf pl n).2.1 + 1, dueN b c now ((lineOf pl n).2.1 + 1) j))) := by
  refine CallO.of_body tab Try.func30 rfl (nt := Try.f30.ntmps) rfl (by kernel_rfl) ?_
  conv => whnf
  cases hpl : pl n with
  | none =>
    refine ⟨none, lf_none hpl, ?_⟩
    rw [lineOf_none hpl]
    conv => whnf
    exact ⟨rfl, fun _ => ⟨rfl, rfl⟩, fun h => absurd rfl h, fun h => absurd rfl h, fun h => absurd rfl h⟩
  | some x =>
    rw [lineOf_some hpl] at hf0 hf1
    obtain ⟨x1, x2, x3⟩ := x
    refine ⟨_, lf_some hpl, ?_⟩
    rw [lineOf_some hpl]
    simp only at hf0 hf1
    conv => whnf
    refine br.of (fun h1 => ?_) (fun h1 => ?_) <;> conv => whnf
    · rw [strEq_iff] at h1
      exact ⟨rfl, fun _ => ⟨rfl, rfl⟩, fun h => absurd h1 h, fun h => absurd h1 h, fun h => absurd h1 h⟩
    · rw [strEq_false] at h1
      cases good with
      | true =>
        conv => whnf
        refine ⟨fun h2 => absurd h2 (lf_ne_none hpl), fun _ => ?_⟩
        conv => whnf
        exact ⟨rfl, fun h => absurd h h1, fun _ _ => ⟨rfl, cnt - 1, by rw [← lf_del']; rfl⟩, fun _ h => (nomatch h), fun _ h => (nomatch h)⟩
      | false =>
        conv => whnf
        refine WS.draw tab mixed (.take 0 (.take 1 (.take 2 (.take 3 (.take 4 (.take 5 (.take 6 (.take 7 (.take 8 (.alt 9 (.take 10 (.take 11 (.take 12 (.take 13 (.take 14 .done))))) .no)))))))))) (by kernel_rfl) [] ?_
        conv => whnf
        rw [wrap64 (x := x2 + 1) (by omega) (by omega)]
        refine ⟨⟨bod22, CallS.use (due b c now (x2 + 1) j hr (by omega) (by omega) H) [] rfl rfl trivial ?_⟩, trivial⟩
        rintro e H' G' hle ⟨he1, he2, rfl, rfl⟩
        by_cases hj : 0 ≤ j ∧ j ≤ 1000 ∧ 0 ≤ now ∧ now ≤ 1099511627776
        · obtain rfl := he1 hj
          conv => whnf
          refine ⟨⟨rfl, rfl, rfl, trivial⟩, ?_⟩
          conv => whnf
          refine WS.draw tab mixed (.take 0 (.take 1 (.take 2 (.take 3 (.take 4 (.take 5 (.take 6 (.take 7 (.take 8 (.take 9 (.alt 10 .done .no))))))))))) (by kernel_rfl) [1] ?_
          conv => whnf
          refine ⟨?_, trivial⟩
          conv => whnf
          refine ⟨fun h2 => absurd h2 (lf_ne_none hpl), fun _ => ?_⟩
          conv => whnf
          rw [wrap64 (x := x2 + 1) (by omega) (by omega)]
          refine ⟨⟨rfl, rfl, trivial⟩, ?_⟩
          conv => whnf
          exact ⟨rfl, fun h => absurd h h1, fun _ h => (nomatch h), fun _ _ h => absurd hj h, fun _ _ _ => ⟨rfl, cnt, by rw [← lf_upd']; rfl⟩⟩
        · obtain rfl := he2 hj
          conv => whnf
          refine ⟨⟨rfl, rfl, rfl, trivial⟩, ?_⟩
          conv => whnf
          exact ⟨rfl, fun h => absurd h h1, fun _ h => (nomatch h), fun _ _ _ => ⟨rfl, rfl⟩, fun _ _ h => absurd h hj⟩
end Go.Kx.Push
