/- The waits: what the functions of the waits come to. No condition of its own. -/
import Derived.Test.YtocmciilifenhaaPushA
namespace Go.Kx.Push
open Go.Proofs Go.Kx

theorem bod17 : Bodied Try.prog 17 := ⟨_, Try.func17, rfl, by kernel_rfl⟩
theorem bod18 : Bodied Try.prog 18 := ⟨_, Try.func18, rfl, by kernel_rfl⟩
theorem bod19 : Bodied Try.prog 19 := ⟨_, Try.func19, rfl, by kernel_rfl⟩
theorem bod20 : Bodied Try.prog 20 := ⟨_, Try.func20, rfl, by kernel_rfl⟩
theorem bod21 : Bodied Try.prog 21 := ⟨_, Try.func21, rfl, by kernel_rfl⟩
theorem bod22 : Bodied Try.prog 22 := ⟨_, Try.func22, rfl, by kernel_rfl⟩

def planV (b c : Int) : SV := .si (.ag [.val (.int .i64 b), .val (.int .i64 c)])
def rightB (b c : Int) : Bool := decide (b ≥ 1) && (decide (b ≤ c) && decide (c ≤ 65536))
theorem right (b c : Int) (H : Hp) : CallO Try.prog 19 [planV b c] H [] fun e H' G' => e = .ret (pv (.bool (rightB b c))) ∧ H' = H ∧ G' = [] := by
  refine CallO.of_body tab Try.func19 rfl (nt := Try.f19.ntmps) rfl (by kernel_rfl) ?_
  unfold rightB
  conv => whnf
  refine br.of (fun h1 => ?_) (fun h1 => ?_)
  · conv => whnf
    refine br.of (fun h2 => ?_) (fun h2 => ?_)
    · conv => whnf
      exact ⟨by rw [h1, h2]; rfl, rfl, rfl⟩
    · conv => whnf
      exact ⟨by rw [h1, h2]; rfl, rfl, rfl⟩
  · conv => whnf
    exact ⟨by rw [h1]; rfl, rfl, rfl⟩

/-- The wait without a jitter, k failures on. -/
def rawN : Nat → Int → Int → Int
  | 0, n, c => if c < n then c else n
  | k + 1, n, c => if n < c then rawN k (n * 2) c else c
theorem raw (b c f : Int) (hr : rightB b c = true) (hf : 1 ≤ f) (hf2 : f ≤ 9223372036854775807) (H : Hp) : CallO Try.prog 17 [planV b c, pv (.int .i64 f)] H [] fun e H' G' => e = .ret (.tu [.ce (.val (.int .i64 (rawN (f - 1).toNat b c))), .ce (.val (.int .i64 0))]) ∧ H' = H ∧ G' = [] := by
  refine CallO.of_body tab Try.func17 rfl (nt := Try.f17.ntmps) rfl (by kernel_rfl) ?_
  conv => whnf
  refine ⟨bod19, CallS.use (right b c H) [] rfl rfl trivial ?_⟩
  rintro e H' G' hle ⟨rfl, rfl, rfl⟩
  rw [hr]
  conv => whnf
  refine br.of (fun h1 => absurd (of_decide_eq_true h1) (by omega)) (fun _ => ?_)
  conv => whnf
  simp only [rightB, Bool.and_eq_true, decide_eq_true_eq] at hr
  refine WS.loop (fun m F H2 G => ∃ i n : Int, 1 ≤ i ∧ i ≤ f ∧ 1 ≤ n ∧ n ≤ 131072 ∧ rawN (f - i).toNat n c = rawN (f - 1).toNat b c ∧ m = (f - i).toNat ∧ F = [(1, pv (.int .i64 f)), (2, .si (.ce (.ptr 0 0))), (6, pv (.int .i64 n)), (7, pv (.int .i64 i))] ∧ H2 = H' ∧ G = [.box 37 [.val (.int .i64 b), .val (.int .i64 c)]]) ((f - 1).toNat + 1)
    ⟨(f - 1).toNat, by omega, _, _, [0], ⟨1, b, by omega, by omega, by omega, by omega, rfl, rfl, rfl, rfl, rfl⟩, rfl, ⟨rfl, trivial⟩, rfl, rfl, rfl, rfl, trivial⟩ ?_
  rintro m F H2 G hle2 ⟨i, n, h2, h3, h4, h5, h6, rfl, rfl, rfl, rfl⟩
  refine codeL.go tab ?_
  conv => whnf
  refine br.of (fun h1 => ?_) (fun h1 => ?_)
  · conv => whnf
    refine br.of (fun h7 => ?_) (fun h7 => ?_)
    · conv => whnf
      simp only [decide_eq_true_eq] at h1 h7
      rw [wrap64 (by omega) (by omega), wrap64 (by omega) (by omega)]
      refine ⟨(f - (i + 1)).toNat, by omega, _, _, [0], ⟨i + 1, n * 2, by omega, by omega, by omega, by omega, ?_, rfl, rfl, rfl, rfl⟩, rfl, ⟨rfl, trivial⟩, rfl, rfl, rfl, rfl, trivial⟩
      rw [← h6, show (f - i).toNat = (f - (i + 1)).toNat + 1 by omega]
      simp [rawN, h7]
    · conv => whnf
      simp only [decide_eq_true_eq, decide_eq_false_iff_not] at h1 h7
      refine ⟨?_, rfl, rfl⟩
      rw [← h6, show (f - i).toNat = (f - (i + 1)).toNat + 1 by omega]
      have : minB n c = c := by unfold minB; split <;> omega
      simp [rawN, h7, this]
  · conv => whnf
    simp only [decide_eq_false_iff_not] at h1
    refine ⟨?_, rfl, rfl⟩
    rw [← h6, show (f - i).toNat = 0 by omega]
    have : minB n c = if c < n then c else n := rfl
    simp [rawN, this]
theorem rawN_le {k : Nat} {n c : Int} (hn : 1 ≤ n) (hc : 1 ≤ c) : 1 ≤ rawN k n c ∧ rawN k n c ≤ c := by
  induction k generalizing n with
  | zero => unfold rawN; split <;> omega
  | succ k ih =>
    unfold rawN
    split
    · exact ih (by omega)
    · omega
theorem rawN_full {k : Nat} {n c : Int} (hn : c ≤ n) : rawN k n c = c := by
  cases k with
  | zero => unfold rawN; split <;> omega
  | succ k => unfold rawN; rw [if_neg (by omega)]
/-- The document's. -/
theorem refRaw (b c f : Int) (hr : rightB b c = true) (hf : 1 ≤ f) (hf2 : f ≤ 9223372036854775807) (H : Hp) : CallO Try.prog 20 [pv (.int .i64 b), pv (.int .i64 c), pv (.int .i64 f)] H [] fun e H' G' => e = .ret (pv (.int .i64 (rawN (f - 1).toNat b c))) ∧ H' = H ∧ G' = [] := by
  refine CallO.of_body tab Try.func20 rfl (nt := Try.f20.ntmps) rfl (by kernel_rfl) ?_
  conv => whnf
  simp only [rightB, Bool.and_eq_true, decide_eq_true_eq] at hr
  refine WS.loop (fun m F H2 G => ∃ i n : Int, 1 ≤ i ∧ i ≤ f ∧ 1 ≤ n ∧ n ≤ 131072 ∧ rawN (f - i).toNat n c = rawN (f - 1).toNat b c ∧ m = (f - i).toNat ∧ F = [(1, pv (.int .i64 c)), (2, pv (.int .i64 f)), (7, pv (.int .i64 n)), (8, pv (.int .i64 i))] ∧ H2 = H ∧ G = []) ((f - 1).toNat + 1)
    ⟨(f - 1).toNat, by omega, _, _, [], ⟨1, b, by omega, by omega, by omega, by omega, rfl, rfl, rfl, rfl, rfl⟩, rfl, trivial, rfl, rfl, rfl, rfl, trivial⟩ ?_
  rintro m F H2 G hle2 ⟨i, n, h2, h3, h4, h5, h6, rfl, rfl, rfl, rfl⟩
  refine codeL.go tab ?_
  conv => whnf
  refine br.of (fun h1 => ?_) (fun h1 => ?_)
  · conv => whnf
    simp only [decide_eq_true_eq] at h1
    refine br.of (fun h7 => ?_) (fun h7 => ?_)
    · conv => whnf
      simp only [decide_eq_true_eq] at h7
      refine ⟨?_, rfl, rfl⟩
      rw [← h6, rawN_full (by omega)]; rfl
    · conv => whnf
      simp only [decide_eq_false_iff_not] at h7
      rw [wrap64 (by omega) (by omega), wrap64 (by omega) (by omega)]
      refine ⟨(f - (i + 1)).toNat, by omega, _, _, [], ⟨i + 1, n + n, by omega, by omega, by omega, by omega, ?_, rfl, rfl, rfl, rfl⟩, rfl, trivial, rfl, rfl, rfl, rfl, trivial⟩
      rw [← h6, show (f - i).toNat = (f - (i + 1)).toNat + 1 by omega, show n + n = n * 2 by omega]
      simp [rawN, show n < c by omega]
  · conv => whnf
    simp only [decide_eq_false_iff_not] at h1
    have h8 : (f - i).toNat = 0 := by omega
    rw [h8] at h6
    refine br.of (fun h7 => ?_) (fun h7 => ?_) <;> conv => whnf
    · simp only [decide_eq_true_eq] at h7
      refine ⟨?_, rfl, rfl⟩
      rw [← h6]; simp [rawN, show c < n by omega]; rfl
    · simp only [decide_eq_false_iff_not] at h7
      refine ⟨?_, rfl, rfl⟩
      rw [← h6]; simp [rawN, show ¬ c < n by omega]; rfl

def waitN (b c f j : Int) : Int := maxB 1 (rawN (f - 1).toNat b c - (rawN (f - 1).toNat b c * j).tdiv 2000)
theorem mul_le {n j : Int} (hn : 1 ≤ n) (hn' : n ≤ 65536) (hj : 0 ≤ j) (hj' : j ≤ 1000) : 0 ≤ n * j ∧ n * j ≤ 65536000 := by
  refine ⟨Int.mul_nonneg (by omega) hj, ?_⟩
  calc n * j ≤ 65536 * j := Int.mul_le_mul_of_nonneg_right hn' hj
    _ ≤ 65536 * 1000 := Int.mul_le_mul_of_nonneg_left hj' (by omega)
theorem wait (b c f j : Int) (hr : rightB b c = true) (hf : 1 ≤ f) (hf2 : f ≤ 9223372036854775807) (H : Hp) : CallO Try.prog 18 [planV b c, pv (.int .i64 f), pv (.int .i64 j)] H [] fun e H' G' =>
    (0 ≤ j ∧ j ≤ 1000 → e = .ret (.tu [.ce (.val (.int .i64 (waitN b c f j))), .ce (.val (.int .i64 0))])) ∧ (¬ (0 ≤ j ∧ j ≤ 1000) → e = .ret (.tu [.ce (.val (.int .i64 0)), .ce (.val (.int .i64 12))])) ∧ H' = H ∧ G' = [] := by
  refine CallO.of_body tab Try.func18 rfl (nt := Try.f18.ntmps) rfl (by kernel_rfl) ?_
  conv => whnf
  refine ⟨bod17, CallS.use (raw b c f hr hf hf2 H) [] rfl rfl trivial ?_⟩
  rintro e H' G' hle ⟨rfl, rfl, rfl⟩
  conv => whnf
  refine br.of (fun h1 => ?_) (fun h1 => ?_) <;> conv => whnf
  · simp only [decide_eq_true_eq] at h1
    exact ⟨fun h => absurd h.1 (by omega), fun _ => rfl, rfl, rfl⟩
  · simp only [decide_eq_false_iff_not] at h1
    refine br.of (fun h2 => ?_) (fun h2 => ?_) <;> conv => whnf
    · simp only [decide_eq_true_eq] at h2
      exact ⟨fun h => absurd h.2 (by omega), fun _ => rfl, rfl, rfl⟩
    · simp only [decide_eq_false_iff_not] at h2
      refine ⟨by decide, ?_⟩
      conv => whnf
      have h3 := rawN_le (k := (f - 1).toNat) (n := b) (c := c) (by simp only [rightB, Bool.and_eq_true, decide_eq_true_eq] at hr; omega) (by simp only [rightB, Bool.and_eq_true, decide_eq_true_eq] at hr; omega)
      have h4 : rawN (f - 1).toNat b c ≤ 65536 := by simp only [rightB, Bool.and_eq_true, decide_eq_true_eq] at hr; omega
      have h5 := mul_le h3.1 h4 (j := j) (by omega) (by omega)
      refine ⟨fun _ => ?_, fun h => absurd ⟨by omega, by omega⟩ h, rfl, rfl⟩
      unfold waitN
      generalize rawN (f - 1).toNat b c = r at *
      rw [wrap64 (x := r * j) (by omega) (by omega)]
      have h6 : (r * j).tdiv 2000 = r * j / 2000 := Int.tdiv_eq_ediv_of_nonneg h5.1
      rw [h6, wrap64 (x := r * j / 2000) (by omega) (by omega), wrap64 (by omega) (by omega)]
theorem waitN_eq {r j : Int} (hr : 1 ≤ r) (hr' : r ≤ 65536) (hj : 0 ≤ j) (hj' : j ≤ 1000) : (r * j).tdiv 2000 = r * j / 2000 ∧ 0 ≤ r * j / 2000 ∧ r * j / 2000 ≤ 32768 := by
  have h5 := mul_le hr hr' hj hj'
  exact ⟨Int.tdiv_eq_ediv_of_nonneg h5.1, by omega, by omega⟩
theorem waitN_le {b c f j : Int} (hr : rightB b c = true) (hj : 0 ≤ j) (hj' : j ≤ 1000) : 1 ≤ waitN b c f j ∧ waitN b c f j ≤ 65536 := by
  simp only [rightB, Bool.and_eq_true, decide_eq_true_eq] at hr
  have h3 := rawN_le (k := (f - 1).toNat) (n := b) (c := c) (by omega) (by omega)
  obtain ⟨h1, h2, h4⟩ := waitN_eq h3.1 (by omega) hj hj'
  unfold waitN
  rw [h1]
  unfold maxB
  split <;> omega
theorem refWait (b c f j : Int) (hr : rightB b c = true) (hf : 1 ≤ f) (hf2 : f ≤ 9223372036854775807) (hj : 0 ≤ j) (hj' : j ≤ 1000) (H : Hp) : CallO Try.prog 21 [pv (.int .i64 b), pv (.int .i64 c), pv (.int .i64 f), pv (.int .i64 j)] H [] fun e H' G' =>
    e = .ret (pv (.int .i64 (waitN b c f j))) ∧ H' = H ∧ G' = [] := by
  refine CallO.of_body tab Try.func21 rfl (nt := Try.f21.ntmps) rfl (by kernel_rfl) ?_
  conv => whnf
  refine ⟨bod20, CallS.use (refRaw b c f hr hf hf2 H) [] rfl rfl trivial ?_⟩
  rintro e H' G' hle ⟨rfl, rfl, rfl⟩
  conv => whnf
  have h3 := rawN_le (k := (f - 1).toNat) (n := b) (c := c) (by simp only [rightB, Bool.and_eq_true, decide_eq_true_eq] at hr; omega) (by simp only [rightB, Bool.and_eq_true, decide_eq_true_eq] at hr; omega)
  have h4 : rawN (f - 1).toNat b c ≤ 65536 := by simp only [rightB, Bool.and_eq_true, decide_eq_true_eq] at hr; omega
  unfold waitN
  generalize rawN (f - 1).toNat b c = r at *
  have h5 := mul_le h3.1 h4 hj hj'
  obtain ⟨h6, h7, h8⟩ := waitN_eq h3.1 h4 hj hj'
  rw [h6]
  refine WS.loop (fun m F H2 G => ∃ l : Int, 0 ≤ l ∧ l ≤ r * j / 2000 ∧ m = (r * j / 2000 - l).toNat ∧ F = [(3, pv (.int .i64 j)), (9, pv (.int .i64 r)), (10, pv (.int .i64 l))] ∧ H2 = H' ∧ G = []) ((r * j / 2000).toNat + 1)
    ⟨(r * j / 2000 - 0).toNat, by omega, _, _, [], ⟨0, by omega, by omega, rfl, rfl, rfl, rfl⟩, rfl, trivial, rfl, rfl, rfl, trivial⟩ ?_
  rintro m F H2 G hle2 ⟨l, h9, h10, rfl, rfl, rfl, rfl⟩
  refine codeL.go tab ?_
  conv => whnf
  rw [wrap64 (x := r * j) (by omega) (by omega), wrap64 (x := l + 1) (by omega) (by omega), wrap64 (x := (l + 1) * 2000) (by omega) (by omega)]
  refine br.of (fun h1 => ?_) (fun h1 => ?_) <;> conv => whnf
  · simp only [decide_eq_true_eq] at h1
    rw [wrap64 (x := l + 1) (by omega) (by omega)]
    exact ⟨(r * j / 2000 - (l + 1)).toNat, by omega, _, _, [], ⟨l + 1, by omega, by omega, rfl, rfl, rfl, rfl⟩, rfl, trivial, rfl, rfl, rfl, trivial⟩
  · simp only [decide_eq_false_iff_not] at h1
    have h11 : l = r * j / 2000 := by omega
    subst h11
    rw [wrap64 (x := r - r * j / 2000) (by omega) (by omega)]
    refine br.of (fun h1 => ?_) (fun h1 => ?_) <;> conv => whnf
    · simp only [decide_eq_true_eq] at h1
      refine ⟨?_, rfl, rfl⟩
      have : maxB 1 (r - r * j / 2000) = 1 := by unfold maxB; split <;> omega
      rw [this]; rfl
    · simp only [decide_eq_false_iff_not] at h1
      refine ⟨?_, rfl, rfl⟩
      have : maxB 1 (r - r * j / 2000) = r - r * j / 2000 := by unfold maxB; split <;> omega
      rw [this, wrap64 (by omega) (by omega)]; rfl
/-- When a wait is over. -/
def dueN (b c now f j : Int) : Int := minB (now + waitN b c f j) 1099511627776
theorem due (b c now f j : Int) (hr : rightB b c = true) (hf : 1 ≤ f) (hf2 : f ≤ 9223372036854775807) (H : Hp) : CallO Try.prog 22 [planV b c, pv (.int .i64 now), pv (.int .i64 f), pv (.int .i64 j)] H [] fun e H' G' =>
    (0 ≤ j ∧ j ≤ 1000 ∧ 0 ≤ now ∧ now ≤ 1099511627776 → e = .ret (.tu [.ce (.val (.int .i64 (dueN b c now f j))), .ce (.val (.int .i64 0))])) ∧ (¬ (0 ≤ j ∧ j ≤ 1000 ∧ 0 ≤ now ∧ now ≤ 1099511627776) → e = .ret (.tu [.ce (.val (.int .i64 0)), .ce (.val (.int .i64 12))])) ∧ H' = H ∧ G' = [] := by
  refine CallO.of_body tab Try.func22 rfl (nt := Try.f22.ntmps) rfl (by kernel_rfl) ?_
  conv => whnf
  refine ⟨bod18, CallS.use (wait b c f j hr hf hf2 H) [] rfl rfl trivial ?_⟩
  rintro e H' G' hle ⟨he1, he2, rfl, rfl⟩
  by_cases hj : 0 ≤ j ∧ j ≤ 1000
  · obtain rfl := he1 hj
    conv => whnf
    refine br.of (fun h1 => ?_) (fun h1 => ?_) <;> conv => whnf
    · simp only [decide_eq_true_eq] at h1
      exact ⟨fun h => absurd h.2.2.1 (by omega), fun _ => rfl, rfl, rfl⟩
    · simp only [decide_eq_false_iff_not] at h1
      refine br.of (fun h2 => ?_) (fun h2 => ?_) <;> conv => whnf
      · simp only [decide_eq_true_eq] at h2
        exact ⟨fun h => absurd h.2.2.2 (by omega), fun _ => rfl, rfl, rfl⟩
      · simp only [decide_eq_false_iff_not] at h2
        have h3 := waitN_le (f := f) hr hj.1 hj.2
        refine ⟨fun _ => ?_, fun h => absurd ⟨hj.1, hj.2, by omega, by omega⟩ h, rfl, rfl⟩
        rw [wrap64 (by omega) (by omega)]; rfl
  · obtain rfl := he2 hj
    conv => whnf
    exact ⟨fun h => absurd ⟨h.1, h.2.1⟩ hj, fun _ => rfl, rfl, rfl⟩
end Go.Kx.Push
