/- Backoff: the waits of a right plan, as numbers: what the printed functions tell, without Go and memory. Conditions: a right plan, at least one failure. -/
import Derived.Test.YtocmciilifenhaaPBackoffCapx
namespace Go.Proofs.Ytocmciilifenhaa.PureBackoffCap
open Go.RowKit Go.Proofs.Ytocmciilifenhaa.PBackoffCap Go.Proofs.YtocmciilifenhaaW.PrintWords Go.Proofs.YtocmciilifenhaaW.PrintLast Go.Proofs.YtocmciilifenhaaW.PrintMore

def pw (j : Nat) : Int := (2 : Int) ^ j
theorem pw_succ (j : Nat) : pw (j + 1) = pw j * 2 := by unfold pw; rw [Int.pow_succ]
theorem pw_pos (j : Nat) : 1 ≤ pw j := by
  induction j with
  | zero => decide
  | succ j ih => rw [pw_succ]; omega
/-- The wait without a jitter. -/
def rawN (b c : Int) : Nat → Int
  | 0 => b
  | j + 1 => if rawN b c j * 2 ≤ c then rawN b c j * 2 else c
theorem rawN_bd {b c : Int} (h1 : 1 ≤ b) (h2 : b ≤ c) (j : Nat) : 1 ≤ rawN b c j ∧ rawN b c j ≤ c := by
  induction j with
  | zero => exact ⟨h1, h2⟩
  | succ j ih => unfold rawN; split <;> omega
theorem rawN_up {b c : Int} (h1 : 1 ≤ b) (h2 : b ≤ c) (j : Nat) : rawN b c j ≤ rawN b c (j + 1) := by
  have := rawN_bd h1 h2 j
  conv => rhs; unfold rawN
  split <;> omega
theorem rawN_mono {b c : Int} (h1 : 1 ≤ b) (h2 : b ≤ c) {i j : Nat} (h : i ≤ j) : rawN b c i ≤ rawN b c j := by
  induction h with
  | refl => omega
  | step _ ih => exact Int.le_trans ih (rawN_up h1 h2 _)
theorem rawN_top {b c : Int} {j : Nat} (h : rawN b c j = c) (h1 : 1 ≤ c) (i : Nat) : rawN b c (j + i) = c := by
  induction i with
  | zero => exact h
  | succ i ih => rw [← Nat.add_assoc]; unfold rawN; rw [ih]; split <;> omega
/-- Either the cap is reached, or the wait is the base, so often doubled. -/
theorem rawN_pw {b c : Int} (h1 : 1 ≤ b) (h2 : b ≤ c) (j : Nat) : rawN b c j = c ∨ pw j ≤ rawN b c j := by
  induction j with
  | zero => right; unfold rawN pw; simpa using h1
  | succ j ih =>
    unfold rawN
    rw [pw_succ]
    split
    · have := rawN_bd h1 h2 j
      rcases ih with ih | ih <;> omega
    · left; rfl
theorem rawN_cap {b c : Int} (h1 : 1 ≤ b) (h2 : b ≤ c) (h3 : c ≤ 65536) {j : Nat} (hj : 16 ≤ j) : rawN b c j = c := by
  have h16 : rawN b c 16 = c := by
    rcases rawN_pw h1 h2 16 with h | h
    · exact h
    · have := rawN_bd h1 h2 16
      have e : pw 16 = 65536 := by decide
      omega
  obtain ⟨i, rfl⟩ : ∃ i, j = 16 + i := ⟨j - 16, by omega⟩
  exact rawN_top h16 (by omega) i

theorem right_yes {b c : Int} (h1 : 1 ≤ b) (h2 : b ≤ c) (h3 : c ≤ 65536) : backoff_Plan_Right.f b c = some true := by
  unfold backoff_Plan_Right.f
  rw [if_pos (by omega), if_pos (by omega), decide_eq_true (by omega)]
theorem right_no {b c : Int} (h : ¬ (1 ≤ b ∧ b ≤ c ∧ c ≤ 65536)) : backoff_Plan_Right.f b c = some false := by
  unfold backoff_Plan_Right.f
  split
  · split
    · rw [decide_eq_false (by omega)]
    · rfl
  · rfl
theorem w64 {n : Int} (h1 : -9223372036854775808 ≤ n) (h2 : n ≤ 9223372036854775807) : wrap64 n = n := by unfold wrap64; omega

/-- The loop of Raw: x6 is ahead of the cap what rawN is, else at most twice the cap. -/
theorem raw_loop {b c f : Int} (h1 : 1 ≤ b) (h2 : b ≤ c) (h3 : c ≤ 65536) (hf : f ≤ 9223372036854775807) (d : Nat) : ∀ (k : Nat) (x : Int) (j : Nat), 1 ≤ x → x < 2 * c + 2 → mn x c = rawN b c j → (j : Int) + 1 ≤ f → (x < c → c ≤ x + d) → d < k →
    backoff_Plan_Raw.l0 k f x (j + 1) b c = some (rawN b c (f - 1).toNat, 0) := by
  induction d with
  | zero =>
    intro k x j hx hx2 hm hj hd hk
    obtain ⟨k, rfl⟩ : ∃ m, k = m + 1 := ⟨k - 1, by omega⟩
    have hc : c ≤ x := by omega
    have hmc : mn x c = c := by unfold mn; split <;> omega
    have e : rawN b c (f - 1).toNat = c := by
      obtain ⟨i, hi⟩ : ∃ i, (f - 1).toNat = j + i := ⟨(f - 1).toNat - j, by omega⟩
      rw [hi]; exact rawN_top (by rw [← hm, hmc]) (by omega) i
    simp only [backoff_Plan_Raw.l0]
    rw [if_neg (show ¬ x < c by omega), hmc, e]
    split <;> rfl
  | succ d ih =>
    intro k x j hx hx2 hm hj hd hk
    obtain ⟨k, rfl⟩ : ∃ m, k = m + 1 := ⟨k - 1, by omega⟩
    simp only [backoff_Plan_Raw.l0]
    by_cases hlt : (j : Int) + 1 < f
    · rw [if_pos hlt]
      by_cases hxc : x < c
      · rw [if_pos hxc, w64 (by omega) (by omega), w64 (by omega) (by omega)]
        have e : rawN b c j = x := by rw [← hm]; unfold mn; split <;> omega
        refine ih k (x * 2) (j + 1) (by omega) (by omega) ?_ (by omega) (by omega) (by omega)
        unfold mn rawN
        rw [e]
        split <;> split <;> omega
      · rw [if_neg hxc]
        have hmc : mn x c = c := by unfold mn; split <;> omega
        have e : rawN b c (f - 1).toNat = c := by
          obtain ⟨i, hi⟩ : ∃ i, (f - 1).toNat = j + i := ⟨(f - 1).toNat - j, by omega⟩
          rw [hi]; exact rawN_top (by rw [← hm, hmc]) (by omega) i
        rw [hmc, e]
    · rw [if_neg hlt, hm]
      obtain rfl : f = (j : Int) + 1 := by omega
      simp

theorem raw_yes {b c f : Int} (h1 : 1 ≤ b) (h2 : b ≤ c) (h3 : c ≤ 65536) (hf1 : 1 ≤ f) (hf : f ≤ 9223372036854775807) {k : Nat} (hk : 70000 ≤ k) : backoff_Plan_Raw.f k b c f = some (rawN b c (f - 1).toNat, 0) := by
  unfold backoff_Plan_Raw.f
  rw [right_yes h1 h2 h3]
  simp only [Option.bind_some, if_true]
  rw [if_neg (by omega)]
  exact raw_loop h1 h2 h3 hf 65536 k b 0 h1 (by omega) (by unfold mn rawN; split <;> omega) (by omega) (by omega) (by omega)
theorem raw_form {b c f : Int} (h : ¬ (1 ≤ b ∧ b ≤ c ∧ c ≤ 65536)) (k : Nat) : backoff_Plan_Raw.f k b c f = some (0, 10) := by
  unfold backoff_Plan_Raw.f
  rw [right_no h]; rfl
theorem raw_range {b c f : Int} (h1 : 1 ≤ b) (h2 : b ≤ c) (h3 : c ≤ 65536) (hf : f < 1) (k : Nat) : backoff_Plan_Raw.f k b c f = some (0, 12) := by
  unfold backoff_Plan_Raw.f
  rw [right_yes h1 h2 h3]
  simp only [Option.bind_some, if_true]
  rw [if_pos hf]
/-- The wait of a jitter, of a wait without one. -/
def waitN (n j : Int) : Int := if n - n * j / 2000 < 1 then 1 else n - n * j / 2000
theorem mul_le {n j : Int} (h1 : 1 ≤ n) (h2 : n ≤ 65536) (h3 : 0 ≤ j) (h4 : j ≤ 1000) : 0 ≤ n * j ∧ n * j ≤ 65536000 ∧ n * j ≤ n * 1000 := by
  have a : n * j ≤ n * 1000 := Int.mul_le_mul_of_nonneg_left h4 (by omega)
  have b : 0 ≤ n * j := Int.mul_nonneg (by omega) h3
  exact ⟨b, by omega, a⟩
theorem wait_yes {b c f j : Int} (h1 : 1 ≤ b) (h2 : b ≤ c) (h3 : c ≤ 65536) (hf1 : 1 ≤ f) (hf : f ≤ 9223372036854775807) (j0 : 0 ≤ j) (j1 : j ≤ 1000) {k : Nat} (hk : 70000 ≤ k) :
    backoff_Plan_Wait.f k b c f j = some (waitN (rawN b c (f - 1).toNat) j, 0) := by
  unfold backoff_Plan_Wait.f
  rw [raw_yes h1 h2 h3 hf1 hf hk]
  obtain ⟨n1, n2⟩ := rawN_bd h1 h2 (f - 1).toNat
  generalize rawN b c (f - 1).toNat = n at *
  obtain ⟨m1, m2, m3⟩ := mul_le n1 (by omega) j0 j1
  simp only [Option.bind_some, if_true]
  rw [if_neg (by omega), if_neg (by omega), w64 (n := n * j) (by omega) (by omega), Int.tdiv_eq_ediv_of_nonneg m1]
  rw [w64 (n := n * j / 2000) (by omega) (by omega), w64 (n := n - n * j / 2000) (by omega) (by omega)]
  unfold mx waitN
  congr 2
  split <;> split <;> omega
theorem wait_jit {b c f j : Int} (h1 : 1 ≤ b) (h2 : b ≤ c) (h3 : c ≤ 65536) (hf1 : 1 ≤ f) (hf : f ≤ 9223372036854775807) (hj : j < 0 ∨ 1000 < j) {k : Nat} (hk : 70000 ≤ k) : backoff_Plan_Wait.f k b c f j = some (0, 12) := by
  unfold backoff_Plan_Wait.f
  rw [raw_yes h1 h2 h3 hf1 hf hk]
  simp only [Option.bind_some, if_true]
  split
  · rfl
  · rw [if_pos (by omega)]
theorem wait_form {b c f j : Int} (h : ¬ (1 ≤ b ∧ b ≤ c ∧ c ≤ 65536)) (k : Nat) : backoff_Plan_Wait.f k b c f j = some (0, 10) := by
  unfold backoff_Plan_Wait.f
  rw [raw_form h]; simp
theorem wait_range {b c f j : Int} (h1 : 1 ≤ b) (h2 : b ≤ c) (h3 : c ≤ 65536) (hf : f < 1) (k : Nat) : backoff_Plan_Wait.f k b c f j = some (0, 12) := by
  unfold backoff_Plan_Wait.f
  rw [raw_range h1 h2 h3 hf]; simp
theorem anchor_yes {k : Nat} (hk : 70000 ≤ k) : klaxonlaw24_anchor.f k = some true := by
  unfold klaxonlaw24_anchor.f
  rw [wait_yes (by omega) (by omega) (by omega) (by omega) (by omega) (by omega) (by omega) hk, wait_yes (by omega) (by omega) (by omega) (by omega) (by omega) (by omega) (by omega) hk]
  have e : rawN 2 30 ((5 : Int) - 1).toNat = 30 := by decide
  rw [e]
  have e1 : waitN 30 0 = 30 := by decide
  have e2 : waitN 30 1000 = 15 := by decide
  rw [e1, e2, right_yes (by omega) (by omega) (by omega)]
  rfl
theorem wait_bd {n j : Int} (h1 : 1 ≤ n) (h2 : n ≤ 65536) (h3 : 0 ≤ j) (h4 : j ≤ 1000) : 1 ≤ waitN n j ∧ waitN n j ≤ n ∧ n ≤ 2 * waitN n j := by
  obtain ⟨m1, m2, m3⟩ := mul_le h1 h2 h3 h4
  unfold waitN
  split <;> omega
theorem law (b c f : Int) (hf : f ≤ 9223372036854775807) : ∃ k, klaxonlaw24_BackoffCap.f k b c f = some true := by
  refine ⟨70002, ?_⟩
  unfold klaxonlaw24_BackoffCap.f
  rw [anchor_yes (by omega)]
  simp only [Option.bind_some, if_true]
  by_cases hr : 1 ≤ b ∧ b ≤ c ∧ c ≤ 65536
  · obtain ⟨h1, h2, h3⟩ := hr
    rw [right_yes h1 h2 h3]
    simp only [Option.bind_some, if_true]
    split
    · rfl
    rw [raw_yes h1 h2 h3 (by omega) hf (by omega), rawN_cap h1 h2 h3 (by omega)]
    simp
  · rw [right_no hr]
    rfl

end Go.Proofs.Ytocmciilifenhaa.PureBackoffCap
