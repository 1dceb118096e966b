/- A scheduler of pushes: its example. No condition of its own. -/
import Derived.Test.YtfchdibbjaeocaaProg
import Derived.Test.YtfchdibbjaeocaaKG
namespace Go.Kx.Push
open Go.Proofs Go.Kx
set_option maxRecDepth 20000
def T : Tab := [(60, { k := TK.st [(0, 39, 2), (2, 58, 1)], agg := true, size := 3, bytes := 24, zero := [Z.i IntKind.i64, Z.i IntKind.i64, Z.m] }), (62, { k := TK.st [(0, 9, 1), (1, 3, 1), (2, 3, 1)], agg := true, size := 3, bytes := 32, zero := [Z.s, Z.i IntKind.i64, Z.i IntKind.i64] }), (39, { k := TK.st [(0, 3, 1), (1, 3, 1)], agg := true, size := 2, bytes := 16, zero := [Z.i IntKind.i64, Z.i IntKind.i64] }), (4, { k := TK.bool, agg := false, size := 1, bytes := 1, zero := [Z.b] }), (35, { k := TK.ptr 60, agg := false, size := 1, bytes := 8, zero := [Z.p] }), (28, { k := TK.int IntKind.i64, agg := false, size := 1, bytes := 8, zero := [Z.i IntKind.i64] }), (40, { k := TK.slice 3, agg := false, size := 1, bytes := 24, zero := [Z.sl] }), (3, { k := TK.int IntKind.i64, agg := false, size := 1, bytes := 8, zero := [Z.i IntKind.i64] }), (9, { k := TK.string, agg := false, size := 1, bytes := 16, zero := [Z.s] }), (58, { k := TK.map 3 62, agg := false, size := 1, bytes := 8, zero := [Z.m] })]
set_option maxRecDepth 100000 in
theorem tab : TabOk Try.prog T := tabOk_mk (ts := [60, 62, 39, 4, 35, 28, 40, 3, 9, 58]) (by kernel_rfl)
theorem mixed : Try.prog.follows .mixedOrders = true := by kernel_rfl
def lineV (x : ByteArray × Int × Int) : Value := .agg #[.string x.1, .int .i64 x.2.1, .int .i64 x.2.2]
def lf (pl : Int → Option (ByteArray × Int × Int)) : Value → Option Value := fun v => match v with
  | .int .i64 n => (pl n).map lineV
  | _ => none
def lineOf (pl : Int → Option (ByteArray × Int × Int)) (n : Int) : ByteArray × Int × Int := (pl n).getD (⟨#[]⟩, 0, 0)
section
variable {pl : Int → Option (ByteArray × Int × Int)} {n : Int} {x : ByteArray × Int × Int}
theorem lf_none (h : pl n = none) : lf pl (.int .i64 n) = none := by simp [lf, h]
theorem lf_some (h : pl n = some x) : lf pl (.int .i64 n) = some (lineV x) := by simp [lf, h]
theorem lineOf_none (h : pl n = none) : lineOf pl n = (⟨#[]⟩, 0, 0) := by simp [lineOf, h]
theorem lineOf_some (h : pl n = some x) : lineOf pl n = x := by simp [lineOf, h]
end
/-- A scheduler and its lines. -/
def pushG (b c : Int) (cnt : Nat) (pl : Int → Option (ByteArray × Int × Int)) : List SB := [.box 60 [.val (.int .i64 b), .val (.int .i64 c), .self 1], .map (.int .i64) cnt (lf pl)]

theorem way (b c : Int) (cnt : Nat) (pl : Int → Option (ByteArray × Int × Int)) (n : Int) (H : Hp) : CallO Try.prog 12 [.si (.ce (.ptr 0 0)), pv (.int .i64 n)] H (pushG b c cnt pl) fun e H' G' => e = .ret (pv (.string (lineOf pl n).1)) ∧ H' = H ∧ G' = pushG b c cnt pl := by
  refine CallO.of_body tab Try.func12 rfl (nt := Try.f12.ntmps) rfl (by kernel_rfl) ?_
  conv => whnf
  cases hpl : pl n with
  | none =>
    refine ⟨none, lf_none hpl, ?_⟩
    conv => whnf
    refine ⟨?_, rfl, rfl⟩
    rw [lineOf_none hpl]; rfl
  | some x =>
    refine ⟨_, lf_some hpl, ?_⟩
    conv => whnf
    refine ⟨?_, rfl, rfl⟩
    rw [lineOf_some hpl]; rfl


def planV (b c : Int) : SV := .si (.ag [.val (.int .i64 b), .val (.int .i64 c)])
def rightB (b c : Int) : Bool := decide (b ≥ 1) && (decide (b ≤ c) && decide (c ≤ 65536))
theorem right (b c : Int) (H : Hp) : CallO Try.prog 17 [planV b c] H [] fun e H' G' => e = .ret (pv (.bool (rightB b c))) ∧ H' = H ∧ G' = [] := by
  refine CallO.of_body tab Try.func17 rfl (nt := Try.f17.ntmps) rfl (by kernel_rfl) ?_
  unfold rightB
  conv => whnf
  refine br.of (fun h1 => ?_) (fun h1 => ?_)
  · conv => whnf
    refine br.of (fun h2 => ?_) (fun h2 => ?_)
    · conv => whnf
      exact ⟨by rw [h1, h2]; rfl, rfl, rfl⟩
    · conv => whnf
      exact ⟨by rw [h1, h2]; rfl, rfl, rfl⟩
  · conv => whnf
    exact ⟨by rw [h1]; rfl, rfl, rfl⟩

/-- The wait without a jitter, k failures on. -/
def rawN : Nat → Int → Int → Int
  | 0, n, c => if c < n then c else n
  | k + 1, n, c => if n < c then rawN k (n * 2) c else c
theorem raw (b c f : Int) (hr : rightB b c = true) (hf : 1 ≤ f) (hf2 : f ≤ 9223372036854775807) (H : Hp) : CallO Try.prog 38 [planV b c, pv (.int .i64 f)] H [] fun e H' G' => e = .ret (.tu [.ce (.val (.int .i64 (rawN (f - 1).toNat b c))), .ce (.val (.int .i64 0))]) ∧ H' = H ∧ G' = [] := by
  refine CallO.of_body tab Try.func38 rfl (nt := Try.f38.ntmps) rfl (by kernel_rfl) ?_
  conv => whnf
  refine ⟨⟨_, Try.func17, rfl, by kernel_rfl⟩, CallS.use (right b c H) [] rfl rfl trivial ?_⟩
  rintro e H' G' hle ⟨rfl, rfl, rfl⟩
  rw [hr]
  conv => whnf
  refine br.of (fun h1 => absurd (of_decide_eq_true h1) (by omega)) (fun _ => ?_)
  conv => whnf
  simp only [rightB, Bool.and_eq_true, decide_eq_true_eq] at hr
  refine WS.loop (fun m F H2 G => ∃ i n : Int, 1 ≤ i ∧ i ≤ f ∧ 1 ≤ n ∧ n ≤ 131072 ∧ rawN (f - i).toNat n c = rawN (f - 1).toNat b c ∧ m = (f - i).toNat ∧ F = [(1, pv (.int .i64 f)), (2, .si (.ce (.ptr 0 0))), (6, pv (.int .i64 n)), (7, pv (.int .i64 i))] ∧ H2 = H' ∧ G = [.box 39 [.val (.int .i64 b), .val (.int .i64 c)]]) ((f - 1).toNat + 1)
    ⟨(f - 1).toNat, by omega, _, _, [0], ⟨1, b, by omega, by omega, by omega, by omega, rfl, rfl, rfl, rfl, rfl⟩, rfl, ⟨rfl, trivial⟩, rfl, rfl, rfl, rfl, trivial⟩ ?_
  rintro m F H2 G hle2 ⟨i, n, h2, h3, h4, h5, h6, rfl, rfl, rfl, rfl⟩
  refine codeL.go tab ?_
  conv => whnf
  refine br.of (fun h1 => ?_) (fun h1 => ?_)
  · conv => whnf
    refine br.of (fun h7 => ?_) (fun h7 => ?_)
    · conv => whnf
      simp only [decide_eq_true_eq] at h1 h7
      rw [wrap64 (by omega) (by omega), wrap64 (by omega) (by omega)]
      refine ⟨(f - (i + 1)).toNat, by omega, _, _, [0], ⟨i + 1, n * 2, by omega, by omega, by omega, by omega, ?_, rfl, rfl, rfl, rfl⟩, rfl, ⟨rfl, trivial⟩, rfl, rfl, rfl, rfl, trivial⟩
      rw [← h6, show (f - i).toNat = (f - (i + 1)).toNat + 1 by omega]
      simp [rawN, h7]
    · conv => whnf
      simp only [decide_eq_true_eq, decide_eq_false_iff_not] at h1 h7
      refine ⟨?_, rfl, rfl⟩
      rw [← h6, show (f - i).toNat = (f - (i + 1)).toNat + 1 by omega]
      have : minB n c = c := by unfold minB; split <;> omega
      simp [rawN, h7, this]
  · conv => whnf
    simp only [decide_eq_false_iff_not] at h1
    refine ⟨?_, rfl, rfl⟩
    rw [← h6, show (f - i).toNat = 0 by omega]
    have : minB n c = if c < n then c else n := rfl
    simp [rawN, this]
theorem rawN_le {k : Nat} {n c : Int} (hn : 1 ≤ n) (hc : 1 ≤ c) : 1 ≤ rawN k n c ∧ rawN k n c ≤ c := by
  induction k generalizing n with
  | zero => unfold rawN; split <;> omega
  | succ k ih =>
    unfold rawN
    split
    · exact ih (by omega)
    · omega
theorem rawN_full {k : Nat} {n c : Int} (hn : c ≤ n) : rawN k n c = c := by
  cases k with
  | zero => unfold rawN; split <;> omega
  | succ k => unfold rawN; rw [if_neg (by omega)]
/-- The document's. -/
def waitN (b c f j : Int) : Int := maxB 1 (rawN (f - 1).toNat b c - (rawN (f - 1).toNat b c * j).tdiv 2000)
theorem mul_le {n j : Int} (hn : 1 ≤ n) (hn' : n ≤ 65536) (hj : 0 ≤ j) (hj' : j ≤ 1000) : 0 ≤ n * j ∧ n * j ≤ 65536000 := by
  refine ⟨Int.mul_nonneg (by omega) hj, ?_⟩
  calc n * j ≤ 65536 * j := Int.mul_le_mul_of_nonneg_right hn' hj
    _ ≤ 65536 * 1000 := Int.mul_le_mul_of_nonneg_left hj' (by omega)
theorem wait (b c f j : Int) (hr : rightB b c = true) (hf : 1 ≤ f) (hf2 : f ≤ 9223372036854775807) (H : Hp) : CallO Try.prog 24 [planV b c, pv (.int .i64 f), pv (.int .i64 j)] H [] fun e H' G' =>
    (0 ≤ j ∧ j ≤ 1000 → e = .ret (.tu [.ce (.val (.int .i64 (waitN b c f j))), .ce (.val (.int .i64 0))])) ∧ (¬ (0 ≤ j ∧ j ≤ 1000) → e = .ret (.tu [.ce (.val (.int .i64 0)), .ce (.val (.int .i64 12))])) ∧ H' = H ∧ G' = [] := by
  refine CallO.of_body tab Try.func24 rfl (nt := Try.f24.ntmps) rfl (by kernel_rfl) ?_
  conv => whnf
  refine ⟨⟨_, Try.func38, rfl, by kernel_rfl⟩, CallS.use (raw b c f hr hf hf2 H) [] rfl rfl trivial ?_⟩
  rintro e H' G' hle ⟨rfl, rfl, rfl⟩
  conv => whnf
  refine br.of (fun h1 => ?_) (fun h1 => ?_) <;> conv => whnf
  · simp only [decide_eq_true_eq] at h1
    exact ⟨fun h => absurd h.1 (by omega), fun _ => rfl, rfl, rfl⟩
  · simp only [decide_eq_false_iff_not] at h1
    refine br.of (fun h2 => ?_) (fun h2 => ?_) <;> conv => whnf
    · simp only [decide_eq_true_eq] at h2
      exact ⟨fun h => absurd h.2 (by omega), fun _ => rfl, rfl, rfl⟩
    · simp only [decide_eq_false_iff_not] at h2
      refine ⟨by decide, ?_⟩
      conv => whnf
      have h3 := rawN_le (k := (f - 1).toNat) (n := b) (c := c) (by simp only [rightB, Bool.and_eq_true, decide_eq_true_eq] at hr; omega) (by simp only [rightB, Bool.and_eq_true, decide_eq_true_eq] at hr; omega)
      have h4 : rawN (f - 1).toNat b c ≤ 65536 := by simp only [rightB, Bool.and_eq_true, decide_eq_true_eq] at hr; omega
      have h5 := mul_le h3.1 h4 (j := j) (by omega) (by omega)
      refine ⟨fun _ => ?_, fun h => absurd ⟨by omega, by omega⟩ h, rfl, rfl⟩
      unfold waitN
      generalize rawN (f - 1).toNat b c = r at *
      rw [wrap64 (x := r * j) (by omega) (by omega)]
      have h6 : (r * j).tdiv 2000 = r * j / 2000 := Int.tdiv_eq_ediv_of_nonneg h5.1
      rw [h6, wrap64 (x := r * j / 2000) (by omega) (by omega), wrap64 (by omega) (by omega)]
theorem waitN_eq {r j : Int} (hr : 1 ≤ r) (hr' : r ≤ 65536) (hj : 0 ≤ j) (hj' : j ≤ 1000) : (r * j).tdiv 2000 = r * j / 2000 ∧ 0 ≤ r * j / 2000 ∧ r * j / 2000 ≤ 32768 := by
  have h5 := mul_le hr hr' hj hj'
  exact ⟨Int.tdiv_eq_ediv_of_nonneg h5.1, by omega, by omega⟩
theorem waitN_le {b c f j : Int} (hr : rightB b c = true) (hj : 0 ≤ j) (hj' : j ≤ 1000) : 1 ≤ waitN b c f j ∧ waitN b c f j ≤ 65536 := by
  simp only [rightB, Bool.and_eq_true, decide_eq_true_eq] at hr
  have h3 := rawN_le (k := (f - 1).toNat) (n := b) (c := c) (by omega) (by omega)
  obtain ⟨h1, h2, h4⟩ := waitN_eq h3.1 (by omega) hj hj'
  unfold waitN
  rw [h1]
  unfold maxB
  split <;> omega
/-- When a wait is over. -/
def dueN (b c now f j : Int) : Int := minB (now + waitN b c f j) 1099511627776
theorem due (b c now f j : Int) (hr : rightB b c = true) (hf : 1 ≤ f) (hf2 : f ≤ 9223372036854775807) (H : Hp) : CallO Try.prog 18 [planV b c, pv (.int .i64 now), pv (.int .i64 f), pv (.int .i64 j)] H [] fun e H' G' =>
    (0 ≤ j ∧ j ≤ 1000 ∧ 0 ≤ now ∧ now ≤ 1099511627776 → e = .ret (.tu [.ce (.val (.int .i64 (dueN b c now f j))), .ce (.val (.int .i64 0))])) ∧ (¬ (0 ≤ j ∧ j ≤ 1000 ∧ 0 ≤ now ∧ now ≤ 1099511627776) → e = .ret (.tu [.ce (.val (.int .i64 0)), .ce (.val (.int .i64 12))])) ∧ H' = H ∧ G' = [] := by
  refine CallO.of_body tab Try.func18 rfl (nt := Try.f18.ntmps) rfl (by kernel_rfl) ?_
  conv => whnf
  refine ⟨⟨_, Try.func24, rfl, by kernel_rfl⟩, CallS.use (wait b c f j hr hf hf2 H) [] rfl rfl trivial ?_⟩
  rintro e H' G' hle ⟨he1, he2, rfl, rfl⟩
  by_cases hj : 0 ≤ j ∧ j ≤ 1000
  · obtain rfl := he1 hj
    conv => whnf
    refine br.of (fun h1 => ?_) (fun h1 => ?_) <;> conv => whnf
    · simp only [decide_eq_true_eq] at h1
      exact ⟨fun h => absurd h.2.2.1 (by omega), fun _ => rfl, rfl, rfl⟩
    · simp only [decide_eq_false_iff_not] at h1
      refine br.of (fun h2 => ?_) (fun h2 => ?_) <;> conv => whnf
      · simp only [decide_eq_true_eq] at h2
        exact ⟨fun h => absurd h.2.2.2 (by omega), fun _ => rfl, rfl, rfl⟩
      · simp only [decide_eq_false_iff_not] at h2
        have h3 := waitN_le (f := f) hr hj.1 hj.2
        refine ⟨fun _ => ?_, fun h => absurd ⟨hj.1, hj.2, by omega, by omega⟩ h, rfl, rfl⟩
        rw [wrap64 (by omega) (by omega)]; rfl
  · obtain rfl := he2 hj
    conv => whnf
    exact ⟨fun h => absurd ⟨h.1, h.2.1⟩ hj, fun _ => rfl, rfl, rfl⟩


abbrev Lines := Int → Option (ByteArray × Int × Int)
def updL (pl : Lines) (n : Int) (x : ByteArray × Int × Int) : Lines := fun k => if k = n then some x else pl k
def delL (pl : Lines) (n : Int) : Lines := fun k => if k = n then none else pl k
theorem lf_upd (pl : Lines) (n : Int) (x : ByteArray × Int × Int) : updM (lf pl) (.int .i64 n) (lineV x) = lf (updL pl n x) := by
  funext v
  by_cases hv : v = .int .i64 n
  · subst hv; rw [updM_self]; simp [lf, updL]
  · rw [updM_ne _ hv]
    unfold lf updL
    split
    · rename_i k
      have : k ≠ n := fun e => hv (by rw [e])
      simp [this]
    · rfl
theorem lf_del (pl : Lines) (n : Int) : delM (lf pl) (.int .i64 n) = lf (delL pl n) := by
  funext v
  by_cases hv : v = .int .i64 n
  · subst hv; rw [delM_self]; simp [lf, delL]
  · rw [delM_ne _ hv]
    unfold lf delL
    split
    · rename_i k
      have : k ≠ n := fun e => hv (by rw [e])
      simp [this]
    · rfl
theorem lf_ne_none {pl : Lines} {n : Int} {x : ByteArray × Int × Int} (h : pl n = some x) : lf pl (.int .i64 n) ≠ none := by rw [lf_some h]; simp

/-- What two numbers come to. -/
def two (a b : Int) : SV := .tu [.ce (.val (.int .i64 a)), .ce (.val (.int .i64 b))]

theorem new_ (b c : Int) (H : Hp) : CallO Try.prog 8 [planV b c] H [] fun e H' G' =>
    (rightB b c = true → e = .ret (.tu [.ce (.ptr 0 0), .ce (.val (.int .i64 0))]) ∧ G' = pushG b c 0 (fun _ => none)) ∧ (rightB b c = false → e = .ret (.tu [.ce (.val (.pointer none)), .ce (.val (.int .i64 10))]) ∧ G' = []) ∧ H' = H := by
  refine CallO.sub (CallO.of_body (K := fun e H' G' =>
    (rightB b c = true → e = .ret (.tu [.ce (.ptr 2 0), .ce (.val (.int .i64 0))]) ∧ G' = [.box 39 [.val (.int .i64 b), .val (.int .i64 c)], .map (.int .i64) 0 (fun _ => none), .box 60 [.val (.int .i64 b), .val (.int .i64 c), .self 1]]) ∧ (rightB b c = false → e = .ret (.tu [.ce (.val (.pointer none)), .ce (.val (.int .i64 10))]) ∧ G' = []) ∧ H' = H) tab Try.func8 rfl (nt := Try.f8.ntmps) rfl (by kernel_rfl) ?_) ?_
  · conv => whnf
    refine ⟨⟨_, Try.func17, rfl, by kernel_rfl⟩, CallS.use (right b c H) [] rfl rfl trivial ?_⟩
    rintro e H' G' hle ⟨rfl, rfl, rfl⟩
    cases hr : rightB b c with
    | true =>
      conv => whnf
      exact ⟨fun _ => ⟨rfl, rfl⟩, fun h => (nomatch h), rfl⟩
    | false =>
      conv => whnf
      exact ⟨fun h => (nomatch h), fun _ => ⟨rfl, rfl⟩, rfl⟩
  · rintro e H' G' hle ⟨h1, h2, rfl⟩
    cases hr : rightB b c with
    | true =>
      obtain ⟨rfl, rfl⟩ := h1 hr
      have e0 : (fun _ => none : Value → Option Value) = lf (fun _ => none) := by
        funext v; unfold lf; split <;> rfl
      rw [e0]
      exact ⟨.tu [.ce (.ptr 0 0), .ce (.val (.int .i64 0))], pushG b c 0 (fun _ => none), [2, 1], rfl, ⟨rfl, rfl, trivial⟩, rfl, fun _ => ⟨rfl, rfl⟩, fun h => (nomatch h), rfl⟩
    | false =>
      obtain ⟨rfl, rfl⟩ := h2 hr
      exact ⟨.tu [.ce (.val (.pointer none)), .ce (.val (.int .i64 10))], [], [], rfl, trivial, rfl, fun h => (nomatch h), fun _ => ⟨rfl, rfl⟩, rfl⟩

theorem state (b c : Int) (cnt : Nat) (pl : Lines) (n : Int) (H : Hp) : CallO Try.prog 11 [.si (.ce (.ptr 0 0)), pv (.int .i64 n)] H (pushG b c cnt pl) fun e H' G' =>
    e = .ret (two (lineOf pl n).2.1 (lineOf pl n).2.2) ∧ H' = H ∧ G' = pushG b c cnt pl := by
  refine CallO.of_body tab Try.func11 rfl (nt := Try.f11.ntmps) rfl (by kernel_rfl) ?_
  conv => whnf
  cases hpl : pl n with
  | none =>
    refine ⟨none, lf_none hpl, ?_⟩
    rw [lineOf_none hpl]
    conv => whnf
    refine WS.draw tab mixed (.take 0 (.take 1 (.take 2 (.take 3 (.take 4 (.take 5 .done)))))) (by kernel_rfl) [] ?_
    conv => whnf
    exact ⟨rfl, rfl, rfl⟩
  | some x =>
    refine ⟨_, lf_some hpl, ?_⟩
    rw [lineOf_some hpl]
    conv => whnf
    refine WS.draw tab mixed (.take 0 (.take 1 (.take 2 (.take 3 (.take 4 (.take 5 .done)))))) (by kernel_rfl) [] ?_
    conv => whnf
    exact ⟨rfl, rfl, rfl⟩

theorem lf_upd' (b c : Int) (cnt : Nat) (pl : Lines) (n : Int) (x : ByteArray × Int × Int) : [.box 60 [.val (.int .i64 b), .val (.int .i64 c), .self 1], .map (.int .i64) cnt (updM (lf pl) (.int .i64 n) (lineV x))] = pushG b c cnt (updL pl n x) := by
  rw [lf_upd]; rfl
theorem start (b c : Int) (cnt : Nat) (pl : Lines) (n : Int) (jti : ByteArray) (H : Hp) : CallO Try.prog 9 [.si (.ce (.ptr 0 0)), pv (.int .i64 n), pv (.string jti)] H (pushG b c cnt pl) fun e H' G' => H' = H ∧
    ((jti = ⟨#[]⟩ → e = .ret (pv (.int .i64 10)) ∧ G' = pushG b c cnt pl) ∧ (jti ≠ ⟨#[]⟩ → (lineOf pl n).1 ≠ ⟨#[]⟩ → e = .ret (pv (.int .i64 16)) ∧ G' = pushG b c cnt pl) ∧
     (jti ≠ ⟨#[]⟩ → (lineOf pl n).1 = ⟨#[]⟩ → e = .ret (pv (.int .i64 0)) ∧ ∃ cnt', G' = pushG b c cnt' (updL pl n (jti, (lineOf pl n).2)))) := by
  refine CallO.of_body tab Try.func9 rfl (nt := Try.f9.ntmps) rfl (by kernel_rfl) ?_
  conv => whnf
  cases hpl : pl n with
  | none =>
    refine ⟨none, lf_none hpl, ?_⟩
    rw [lineOf_none hpl]
    conv => whnf
    refine br.of (fun h1 => ?_) (fun h1 => ?_) <;> conv => whnf
    · rw [strEq_iff] at h1
      exact ⟨rfl, fun _ => ⟨rfl, rfl⟩, fun h => absurd h1 h, fun h => absurd h1 h⟩
    · rw [strEq_false] at h1
      refine WS.draw tab mixed (.take 0 (.take 1 (.take 2 (.take 3 (.take 4 (.take 5 (.alt 6 .done .no))))))) (by kernel_rfl) [1] ?_
      conv => whnf
      refine ⟨?_, trivial⟩
      conv => whnf
      refine ⟨fun h2 => ?_, fun h2 => absurd (lf_none hpl) h2⟩
      conv => whnf
      refine ⟨by repeat' (first | exact trivial | exact rfl | refine And.intro ?_ ?_), ?_⟩
      conv => whnf
      exact ⟨rfl, fun h => absurd h h1, fun _ h => absurd rfl h, fun _ _ => ⟨rfl, cnt + 1, by rw [← lf_upd']; rfl⟩⟩
  | some x =>
    obtain ⟨x1, x2, x3⟩ := x
    refine ⟨_, lf_some hpl, ?_⟩
    rw [lineOf_some hpl]
    conv => whnf
    refine br.of (fun h1 => ?_) (fun h1 => ?_) <;> conv => whnf
    · rw [strEq_iff] at h1
      exact ⟨rfl, fun _ => ⟨rfl, rfl⟩, fun h => absurd h1 h, fun h => absurd h1 h⟩
    · rw [strEq_false] at h1
      refine br.of (fun h2 => ?_) (fun h2 => ?_) <;> conv => whnf
      · simp only [Bool.not_eq_true', strEq_false] at h2
        exact ⟨rfl, fun h => absurd h h1, fun _ _ => ⟨rfl, rfl⟩, fun _ h => absurd h h2⟩
      · simp only [Bool.not_eq_false', strEq_iff] at h2
        refine WS.draw tab mixed (.take 0 (.take 1 (.take 2 (.take 3 (.take 4 (.take 5 (.alt 6 .done .no))))))) (by kernel_rfl) [1] ?_
        conv => whnf
        refine ⟨?_, trivial⟩
        conv => whnf
        refine ⟨fun h2 => absurd h2 (lf_ne_none hpl), fun _ => ?_⟩
        conv => whnf
        refine ⟨by repeat' (first | exact trivial | exact rfl | refine And.intro ?_ ?_), ?_⟩
        conv => whnf
        exact ⟨rfl, fun h => absurd h h1, fun _ h => absurd h2 h, fun _ _ => ⟨rfl, cnt, by rw [← lf_upd']; rfl⟩⟩

theorem lf_del' (b c : Int) (cnt : Nat) (pl : Lines) (n : Int) : [.box 60 [.val (.int .i64 b), .val (.int .i64 c), .self 1], .map (.int .i64) cnt (delM (lf pl) (.int .i64 n))] = pushG b c cnt (delL pl n) := by
  rw [lf_del]; rfl
theorem end_ (b c : Int) (cnt : Nat) (pl : Lines) (n : Int) (good : Bool) (now j : Int) (hr : rightB b c = true) (hf0 : 0 ≤ (lineOf pl n).2.1) (hf1 : (lineOf pl n).2.1 ≤ 1000000) (H : Hp) :
    CallO Try.prog 10 [.si (.ce (.ptr 0 0)), pv (.int .i64 n), pv (.bool good), pv (.int .i64 now), pv (.int .i64 j)] H (pushG b c cnt pl) fun e H' G' => H' = H ∧
    ((lineOf pl n).1 = ⟨#[]⟩ → e = .ret (pv (.int .i64 16)) ∧ G' = pushG b c cnt pl) ∧ ((lineOf pl n).1 ≠ ⟨#[]⟩ → good = true → e = .ret (pv (.int .i64 0)) ∧ ∃ cnt', G' = pushG b c cnt' (delL pl n)) ∧
    ((lineOf pl n).1 ≠ ⟨#[]⟩ → good = false → ¬ (0 ≤ j ∧ j ≤ 1000 ∧ 0 ≤ now ∧ now ≤ 1099511627776) → e = .ret (pv (.int .i64 12)) ∧ G' = pushG b c cnt pl) ∧
    ((lineOf pl n).1 ≠ ⟨#[]⟩ → good = false → (0 ≤ j ∧ j ≤ 1000 ∧ 0 ≤ now ∧ now ≤ 1099511627776) → e = .ret (pv (.int .i64 0)) ∧ ∃ cnt', G' = pushG b c cnt' (updL pl n (⟨#[]⟩, (lineOf pl n).2.1 + 1, dueN b c now ((lineOf pl n).2.1 + 1) j))) := by
  refine CallO.of_body tab Try.func10 rfl (nt := Try.f10.ntmps) rfl (by kernel_rfl) ?_
  conv => whnf
  cases hpl : pl n with
  | none =>
    refine ⟨none, lf_none hpl, ?_⟩
    rw [lineOf_none hpl]
    conv => whnf
    exact ⟨rfl, fun _ => ⟨rfl, rfl⟩, fun h => absurd rfl h, fun h => absurd rfl h, fun h => absurd rfl h⟩
  | some x =>
    rw [lineOf_some hpl] at hf0 hf1
    obtain ⟨x1, x2, x3⟩ := x
    refine ⟨_, lf_some hpl, ?_⟩
    rw [lineOf_some hpl]
    simp only at hf0 hf1
    conv => whnf
    refine br.of (fun h1 => ?_) (fun h1 => ?_) <;> conv => whnf
    · rw [strEq_iff] at h1
      exact ⟨rfl, fun _ => ⟨rfl, rfl⟩, fun h => absurd h1 h, fun h => absurd h1 h, fun h => absurd h1 h⟩
    · rw [strEq_false] at h1
      cases good with
      | true =>
        conv => whnf
        refine ⟨fun h2 => absurd h2 (lf_ne_none hpl), fun _ => ?_⟩
        conv => whnf
        exact ⟨rfl, fun h => absurd h h1, fun _ _ => ⟨rfl, cnt - 1, by rw [← lf_del']; rfl⟩, fun _ h => (nomatch h), fun _ h => (nomatch h)⟩
      | false =>
        conv => whnf
        refine WS.draw tab mixed (.take 0 (.take 1 (.take 2 (.take 3 (.take 4 (.take 5 (.take 6 (.take 7 (.take 8 (.alt 9 (.take 10 (.take 11 (.take 12 (.take 13 (.take 14 .done))))) .no)))))))))) (by kernel_rfl) [] ?_
        conv => whnf
        rw [wrap64 (x := x2 + 1) (by omega) (by omega)]
        refine ⟨⟨⟨_, Try.func18, rfl, by kernel_rfl⟩, CallS.use (due b c now (x2 + 1) j hr (by omega) (by omega) H) [] rfl rfl trivial ?_⟩, trivial⟩
        rintro e H' G' hle ⟨he1, he2, rfl, rfl⟩
        by_cases hj : 0 ≤ j ∧ j ≤ 1000 ∧ 0 ≤ now ∧ now ≤ 1099511627776
        · obtain rfl := he1 hj
          conv => whnf
          refine ⟨⟨rfl, rfl, rfl, trivial⟩, ?_⟩
          conv => whnf
          refine WS.draw tab mixed (.take 0 (.take 1 (.take 2 (.take 3 (.take 4 (.take 5 (.take 6 (.take 7 (.take 8 (.take 9 (.alt 10 .done .no))))))))))) (by kernel_rfl) [1] ?_
          conv => whnf
          refine ⟨?_, trivial⟩
          conv => whnf
          refine ⟨fun h2 => absurd h2 (lf_ne_none hpl), fun _ => ?_⟩
          conv => whnf
          rw [wrap64 (x := x2 + 1) (by omega) (by omega)]
          refine ⟨by repeat' (first | exact trivial | exact rfl | refine And.intro ?_ ?_), ?_⟩
          conv => whnf
          exact ⟨rfl, fun h => absurd h h1, fun _ h => (nomatch h), fun _ _ h => absurd hj h, fun _ _ _ => ⟨rfl, cnt, by rw [← lf_upd']; rfl⟩⟩
        · obtain rfl := he2 hj
          conv => whnf
          refine ⟨⟨rfl, rfl, rfl, trivial⟩, ?_⟩
          conv => whnf
          exact ⟨rfl, fun h => absurd h h1, fun _ h => (nomatch h), fun _ _ _ => ⟨rfl, rfl⟩, fun _ _ h => absurd h hj⟩
def okT (now j : Int) : Prop := 0 ≤ j ∧ j ≤ 1000 ∧ 0 ≤ now ∧ now ≤ 1099511627776
instance (now j : Int) : Decidable (okT now j) := by unfold okT; infer_instance
def pStart (pl : Lines) (n : Int) (jti : ByteArray) : Lines × Int :=
  if jti = ⟨#[]⟩ then (pl, 10) else if (lineOf pl n).1 ≠ ⟨#[]⟩ then (pl, 16) else (updL pl n (jti, (lineOf pl n).2), 0)
def pEnd (b c : Int) (pl : Lines) (n : Int) (good : Bool) (now j : Int) : Lines × Int :=
  if (lineOf pl n).1 = ⟨#[]⟩ then (pl, 16) else if good = true then (delL pl n, 0) else if ¬ okT now j then (pl, 12) else (updL pl n (⟨#[]⟩, (lineOf pl n).2.1 + 1, dueN b c now ((lineOf pl n).2.1 + 1) j), 0)
def PRet (b c : Int) (p : Lines × Int) (e : SE) (G' : List SB) : Prop := e = .ret (pv (.int .i64 p.2)) ∧ ∃ cnt', G' = pushG b c cnt' p.1

theorem start' (b c : Int) (cnt : Nat) (pl : Lines) (n : Int) (jti : ByteArray) (H : Hp) : CallO Try.prog 9 [.si (.ce (.ptr 0 0)), pv (.int .i64 n), pv (.string jti)] H (pushG b c cnt pl) fun e H' G' => H' = H ∧ PRet b c (pStart pl n jti) e G' := by
  refine (start b c cnt pl n jti H).mono fun e H' G' _ ⟨h0, h1, h2, h3⟩ => ⟨h0, ?_⟩
  unfold pStart
  split
  · rename_i h; obtain ⟨rfl, rfl⟩ := h1 h; exact ⟨rfl, cnt, rfl⟩
  · rename_i h
    split
    · rename_i h'; obtain ⟨rfl, rfl⟩ := h2 h h'; exact ⟨rfl, cnt, rfl⟩
    · rename_i h'; obtain ⟨rfl, cnt', rfl⟩ := h3 h (Classical.not_not.1 h'); exact ⟨rfl, cnt', rfl⟩
theorem end' (b c : Int) (cnt : Nat) (pl : Lines) (n : Int) (good : Bool) (now j : Int) (hr : rightB b c = true) (hf0 : 0 ≤ (lineOf pl n).2.1) (hf1 : (lineOf pl n).2.1 ≤ 1000000) (H : Hp) :
    CallO Try.prog 10 [.si (.ce (.ptr 0 0)), pv (.int .i64 n), pv (.bool good), pv (.int .i64 now), pv (.int .i64 j)] H (pushG b c cnt pl) fun e H' G' => H' = H ∧ PRet b c (pEnd b c pl n good now j) e G' := by
  refine (end_ b c cnt pl n good now j hr hf0 hf1 H).mono fun e H' G' _ ⟨h0, h1, h2, h3, h4⟩ => ⟨h0, ?_⟩
  unfold pEnd
  split
  · rename_i h; obtain ⟨rfl, rfl⟩ := h1 h; exact ⟨rfl, cnt, rfl⟩
  · rename_i h
    split
    · rename_i h'; obtain ⟨rfl, cnt', rfl⟩ := h2 h h'; exact ⟨rfl, cnt', rfl⟩
    · rename_i h'
      have h' : good = false := by cases good <;> simp_all
      split
      · rename_i h''; obtain ⟨rfl, rfl⟩ := h3 h h' h''; exact ⟨rfl, cnt, rfl⟩
      · rename_i h''; obtain ⟨rfl, cnt', rfl⟩ := h4 h h' (Classical.not_not.1 h''); exact ⟨rfl, cnt', rfl⟩

theorem lineOf_upd (pl : Lines) (n : Int) (x : ByteArray × Int × Int) : lineOf (updL pl n x) n = x := by simp [lineOf, updL]
theorem lineOf_upd_ne (pl : Lines) {n k : Int} (x : ByteArray × Int × Int) (h : k ≠ n) : lineOf (updL pl n x) k = lineOf pl k := by simp [lineOf, updL, h]
theorem lineOf_del (pl : Lines) (n : Int) : lineOf (delL pl n) n = (⟨#[]⟩, 0, 0) := by simp [lineOf, delL]
theorem lineOf_del_ne (pl : Lines) {n k : Int} (h : k ≠ n) : lineOf (delL pl n) k = lineOf pl k := by simp [lineOf, delL, h]

def nowAt : Nat → Int
  | 0 => 10
  | 1 => 20
  | _ => 40
theorem rdAt {H : Hp} {A : Option Addr} (h : RdN H A 0 [.int .i64 10, .int .i64 20, .int .i64 40]) {i : Nat} (hi : i < 3) {off : Nat} (ho : off = i) : RdC H A off (.int .i64 (nowAt i)) := by
  obtain ⟨b, o, h1, h2⟩ := h
  subst ho
  refine ⟨b, o, h1, ?_⟩
  have : off = 0 ∨ off = 1 ∨ off = 2 := by omega
  rcases this with rfl | rfl | rfl
  · exact h2 0 _ rfl
  · exact h2 1 _ rfl
  · exact h2 2 _ rfl
theorem anchor (H : Hp) : CallO Try.prog 4 [] H [] fun e _ G' => e = .ret (pv (.bool true)) ∧ G' = [] := by
  refine CallO.of_body tab Try.func4 rfl (nt := Try.f4.ntmps) rfl (by kernel_rfl) ?_
  conv => whnf
  refine ⟨⟨_, Try.func8, rfl, by kernel_rfl⟩, CallS.use (new_ 2 30 H) [] rfl rfl trivial ?_⟩
  rintro e H' G' hle ⟨h1, _, rfl⟩
  obtain ⟨rfl, rfl⟩ := h1 rfl
  conv => whnf
  refine ⟨by decide, .inl ?_⟩
  intro g H2 hle2 hrd
  conv => whnf
  refine WS.loop (fun m F H3 G => ∃ (i : Nat) (pl : Lines) (cnt : Nat) (d : Int), i ≤ 3 ∧ m = 3 - i ∧ lineOf pl 1 = (⟨#[]⟩, (i : Int), d) ∧ (i = 3 → d = 48) ∧ F = [(1, .si (.ce (.ptr 0 0))), (18, pv (.slice (some ⟨g, 0, none⟩) 3 3)), (19, pv (.int .i64 3)), (20, pv (.int .i64 i))] ∧ H3 = H2 ∧ G = pushG 2 30 cnt pl) 4
    ⟨3, by omega, _, _, [0, 1], ⟨0, (fun _ => none), 0, 0, by omega, rfl, rfl, by omega, rfl, rfl, rfl⟩, rfl, ⟨rfl, rfl, trivial⟩, rfl, rfl, rfl, rfl, trivial⟩ ?_
  rintro m F H3 G hle3 ⟨i, pl, cnt, d, h2, rfl, h3, h4, rfl, rfl, rfl⟩
  refine codeL.go tab ?_
  conv => whnf
  refine br.of (fun h5 => ?_) (fun h5 => ?_) <;> conv => whnf
  · simp only [decide_eq_true_eq] at h5
    have hi : i < 3 := by omega
    refine ⟨⟨by omega, by omega⟩, ⟨g, 0, rfl⟩, ?_⟩
    conv => whnf
    refine ⟨_, rdAt hrd hi (by simp), ?_⟩
    conv => whnf
    have hs := start' 2 30 cnt pl 1 ⟨#[101, 49, 46, 49]⟩ H3
    have hp : pStart pl 1 ⟨#[101, 49, 46, 49]⟩ = (updL pl 1 (⟨#[101, 49, 46, 49]⟩, (i : Int), d), 0) := by simp [pStart, h3]
    rw [hp] at hs
    refine ⟨⟨_, Try.func9, rfl, by kernel_rfl⟩, CallS.use hs [0, 1] rfl rfl ⟨rfl, rfl, trivial⟩ ?_⟩
    rintro e H4 G' hle4 ⟨rfl, rfl, cnt2, rfl⟩
    conv => whnf
    have he := end' 2 30 cnt2 (updL pl 1 (⟨#[101, 49, 46, 49]⟩, (i : Int), d)) 1 false (nowAt i) 0 rfl (by rw [lineOf_upd]; show (0 : Int) ≤ i; omega) (by rw [lineOf_upd]; show (i : Int) ≤ 1000000; omega) H4
    have hok : okT (nowAt i) 0 := by
      have : i = 0 ∨ i = 1 ∨ i = 2 := by omega
      rcases this with rfl | rfl | rfl <;> decide
    have hp2 : pEnd 2 30 (updL pl 1 (⟨#[101, 49, 46, 49]⟩, (i : Int), d)) 1 false (nowAt i) 0 = (updL (updL pl 1 (⟨#[101, 49, 46, 49]⟩, (i : Int), d)) 1 (⟨#[]⟩, (i : Int) + 1, dueN 2 30 (nowAt i) ((i : Int) + 1) 0), 0) := by
      simp [pEnd, lineOf_upd, hok]
    rw [hp2] at he
    refine ⟨⟨_, Try.func10, rfl, by kernel_rfl⟩, CallS.use he [0, 1] rfl rfl ⟨rfl, rfl, trivial⟩ ?_⟩
    rintro e H5 G' hle5 ⟨rfl, rfl, cnt3, rfl⟩
    conv => whnf
    have hw : IntKind.i64.wrap ((i : Int) + 1) = ((i + 1 : Nat) : Int) := by rw [wrap64 (by omega) (by omega)]; omega
    rw [hw]
    refine ⟨3 - (i + 1), by omega, _, _, [0, 1], ⟨i + 1, updL (updL pl 1 (⟨#[101, 49, 46, 49]⟩, (i : Int), d)) 1 (⟨#[]⟩, (i : Int) + 1, dueN 2 30 (nowAt i) ((i : Int) + 1) 0), cnt3, _, by omega, rfl, lineOf_upd _ _ _, fun h => ?_, rfl, rfl, rfl⟩, rfl, ⟨rfl, rfl, trivial⟩, rfl, rfl, rfl, rfl, trivial⟩
    obtain rfl : i = 2 := by omega
    decide
  · simp only [decide_eq_false_iff_not] at h5
    obtain rfl : i = 3 := by omega
    obtain rfl := h4 rfl
    have hst := state 2 30 cnt pl 1 H3
    rw [h3] at hst
    refine ⟨⟨_, Try.func11, rfl, by kernel_rfl⟩, CallS.use hst [0, 1] rfl rfl ⟨rfl, rfl, trivial⟩ ?_⟩
    rintro e H4 G' hle4 ⟨rfl, rfl, rfl⟩
    conv => whnf
    have hwy := way 2 30 cnt pl 1 H4
    rw [h3] at hwy
    refine ⟨⟨_, Try.func12, rfl, by kernel_rfl⟩, CallS.use hwy [0, 1] rfl rfl ⟨rfl, rfl, trivial⟩ ?_⟩
    rintro e H5 G' hle5 ⟨rfl, rfl, rfl⟩
    conv => whnf
    exact ⟨rfl, rfl⟩
end Go.Kx.Push
