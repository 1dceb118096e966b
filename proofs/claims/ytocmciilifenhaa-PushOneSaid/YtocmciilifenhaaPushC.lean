/- A scheduler's functions. No condition of its own. -/
import Derived.Test.YtocmciilifenhaaPushB
namespace Go.Kx.Push
open Go.Proofs Go.Kx

theorem bod24 : Bodied Try.prog 24 := ⟨_, Try.func24, rfl, by kernel_rfl⟩
theorem bod27 : Bodied Try.prog 27 := ⟨_, Try.func27, rfl, by kernel_rfl⟩
theorem bod28 : Bodied Try.prog 28 := ⟨_, Try.func28, rfl, by kernel_rfl⟩
theorem bod29 : Bodied Try.prog 29 := ⟨_, Try.func29, rfl, by kernel_rfl⟩
theorem bod30 : Bodied Try.prog 30 := ⟨_, Try.func30, rfl, by kernel_rfl⟩
theorem mixed : Try.prog.follows .mixedOrders = true := by kernel_rfl

abbrev Lines := Int → Option (ByteArray × Int × Int)
def updL (pl : Lines) (n : Int) (x : ByteArray × Int × Int) : Lines := fun k => if k = n then some x else pl k
def delL (pl : Lines) (n : Int) : Lines := fun k => if k = n then none else pl k
theorem lf_upd (pl : Lines) (n : Int) (x : ByteArray × Int × Int) : updM (lf pl) (.int .i64 n) (lineV x) = lf (updL pl n x) := by
  funext v
  by_cases hv : v = .int .i64 n
  · subst hv; rw [updM_self]; simp [lf, updL]
  · rw [updM_ne _ hv]
    unfold lf updL
    split
    · rename_i k
      have : k ≠ n := fun e => hv (by rw [e])
      simp [this]
    · rfl
theorem lf_del (pl : Lines) (n : Int) : delM (lf pl) (.int .i64 n) = lf (delL pl n) := by
  funext v
  by_cases hv : v = .int .i64 n
  · subst hv; rw [delM_self]; simp [lf, delL]
  · rw [delM_ne _ hv]
    unfold lf delL
    split
    · rename_i k
      have : k ≠ n := fun e => hv (by rw [e])
      simp [this]
    · rfl
theorem lf_ne_none {pl : Lines} {n : Int} {x : ByteArray × Int × Int} (h : pl n = some x) : lf pl (.int .i64 n) ≠ none := by rw [lf_some h]; simp

/-- What two numbers come to. -/
def two (a b : Int) : SV := .tu [.ce (.val (.int .i64 a)), .ce (.val (.int .i64 b))]

theorem new_ (b c : Int) (H : Hp) : CallO Try.prog 24 [planV b c] H [] fun e H' G' =>
    (rightB b c = true → e = .ret (.tu [.ce (.ptr 0 0), .ce (.val (.int .i64 0))]) ∧ G' = pushG b c 0 (fun _ => none)) ∧ (rightB b c = false → e = .ret (.tu [.ce (.val (.pointer none)), .ce (.val (.int .i64 10))]) ∧ G' = []) ∧ H' = H := by
  refine CallO.sub (CallO.of_body (K := fun e H' G' =>
    (rightB b c = true → e = .ret (.tu [.ce (.ptr 2 0), .ce (.val (.int .i64 0))]) ∧ G' = [.box 37 [.val (.int .i64 b), .val (.int .i64 c)], .map (.int .i64) 0 (fun _ => none), .box 86 [.val (.int .i64 b), .val (.int .i64 c), .self 1]]) ∧ (rightB b c = false → e = .ret (.tu [.ce (.val (.pointer none)), .ce (.val (.int .i64 10))]) ∧ G' = []) ∧ H' = H) tab Try.func24 rfl (nt := Try.f24.ntmps) rfl (by kernel_rfl) ?_) ?_
  · conv => whnf
    refine ⟨bod19, CallS.use (right b c H) [] rfl rfl trivial ?_⟩
    rintro e H' G' hle ⟨rfl, rfl, rfl⟩
    cases hr : rightB b c with
    | true =>
      conv => whnf
      exact ⟨fun _ => ⟨rfl, rfl⟩, fun h => (nomatch h), rfl⟩
    | false =>
      conv => whnf
      exact ⟨fun h => (nomatch h), fun _ => ⟨rfl, rfl⟩, rfl⟩
  · rintro e H' G' hle ⟨h1, h2, rfl⟩
    cases hr : rightB b c with
    | true =>
      obtain ⟨rfl, rfl⟩ := h1 hr
      have e0 : (fun _ => none : Value → Option Value) = lf (fun _ => none) := by
        funext v; unfold lf; split <;> rfl
      rw [e0]
      exact ⟨.tu [.ce (.ptr 0 0), .ce (.val (.int .i64 0))], pushG b c 0 (fun _ => none), [2, 1], rfl, ⟨rfl, rfl, trivial⟩, rfl, fun _ => ⟨rfl, rfl⟩, fun h => (nomatch h), rfl⟩
    | false =>
      obtain ⟨rfl, rfl⟩ := h2 hr
      exact ⟨.tu [.ce (.val (.pointer none)), .ce (.val (.int .i64 10))], [], [], rfl, trivial, rfl, fun h => (nomatch h), fun _ => ⟨rfl, rfl⟩, rfl⟩

theorem state (b c : Int) (cnt : Nat) (pl : Lines) (n : Int) (H : Hp) : CallO Try.prog 27 [.si (.ce (.ptr 0 0)), pv (.int .i64 n)] H (pushG b c cnt pl) fun e H' G' =>
    e = .ret (two (lineOf pl n).2.1 (lineOf pl n).2.2) ∧ H' = H ∧ G' = pushG b c cnt pl := by
  refine CallO.of_body tab Try.func27 rfl (nt := Try.f27.ntmps) rfl (by kernel_rfl) ?_
  conv => whnf
  cases hpl : pl n with
  | none =>
    refine ⟨none, lf_none hpl, ?_⟩
    rw [lineOf_none hpl]
    conv => whnf
    refine WS.draw tab mixed (.take 0 (.take 1 (.take 2 (.take 3 (.take 4 (.take 5 .done)))))) (by kernel_rfl) [] ?_
    conv => whnf
    exact ⟨rfl, rfl, rfl⟩
  | some x =>
    refine ⟨_, lf_some hpl, ?_⟩
    rw [lineOf_some hpl]
    conv => whnf
    refine WS.draw tab mixed (.take 0 (.take 1 (.take 2 (.take 3 (.take 4 (.take 5 .done)))))) (by kernel_rfl) [] ?_
    conv => whnf
    exact ⟨rfl, rfl, rfl⟩
end Go.Kx.Push
