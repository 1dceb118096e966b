/- Values as texts: numbers and characters out of a reader. No condition of its own. -/
import Derived.Test.YtfchdibbjaeocaaJsB
namespace Go.Kx.Js
open Go.Proofs Go.Kx Go.RowKit
set_option maxRecDepth 20000
theorem wrapU8 {x : Int} (h : 0 ≤ x) (h' : x < 256) : IntKind.u8.wrap x = x := by
  show x.emod 256 = x
  exact Int.emod_eq_of_lt h h'
theorem wrap32 {x : Int} (h : -2147483648 ≤ x) (h' : x < 2147483648) : IntKind.i32.wrap x = x := by
  show (if (true && decide (x.emod 4294967296 ≥ 2147483648)) = true then x.emod 4294967296 - 4294967296 else x.emod 4294967296) = x
  have : x.emod 4294967296 = x % 4294967296 := rfl
  simp only [Bool.true_and, decide_eq_true_eq, this]
  split <;> omega
theorem or32 {a b : Nat} (ha : a < 4294967296) (hb : b < 4294967296) : (BitVec.ofInt IntKind.i32.bits (a : Int) ||| BitVec.ofInt IntKind.i32.bits (b : Int)).toNat = a ||| b := by
  show (BitVec.ofInt 32 (a : Int) ||| BitVec.ofInt 32 (b : Int)).toNat = a ||| b
  rw [BitVec.toNat_or, BitVec.ofInt_natCast, BitVec.ofInt_natCast, BitVec.toNat_ofNat, BitVec.toNat_ofNat, Nat.mod_eq_of_lt ha, Nat.mod_eq_of_lt hb]
theorem or16 {n d : Nat} (h : d < 16) : n * 16 ||| d = n * 16 + d := by
  have := Nat.shiftLeft_add_eq_or_of_lt (i := 4) (b := d) h n
  rw [Nat.shiftLeft_eq] at this
  exact this.symm
def lowerS : List UInt8 := [48, 49, 50, 51, 52, 53, 54, 55, 56, 57, 97, 98, 99, 100, 101, 102]
/-- A letter of A to F as a small one. -/
def lowC (c : UInt8) : UInt8 := if 65 ≤ c.toNat ∧ c.toNat ≤ 70 then c + 32 else c
theorem ix_hex (c : UInt8) : ixB lowerS (lowC c) = match hexD c with
    | some d => (d : Int)
    | none => -1 := by
  have h : ∀ n : Fin 256, ixB lowerS (lowC (UInt8.ofNat n.val)) = (match hexD (UInt8.ofNat n.val) with
    | some d => (d : Int)
    | none => -1) := by decide +kernel
  have := h ⟨c.toNat, c.toNat_lt⟩
  simpa using this
theorem lowC_yes {c : UInt8} (h1 : 65 ≤ c.toNat) (h2 : c.toNat ≤ 70) : IntKind.u8.wrap ((c.toNat : Int) + 32) = ((lowC c).toNat : Int) := by
  unfold lowC
  rw [if_pos ⟨h1, h2⟩, UInt8.toNat_add]
  have : (32 : UInt8).toNat = 32 := rfl
  rw [wrapU8 (by omega) (by omega)]
  omega
theorem lowC_no {c : UInt8} (h : ¬ (65 ≤ c.toNat ∧ c.toNat ≤ 70)) : (c.toNat : Int) = ((lowC c).toNat : Int) := by
  unfold lowC
  rw [if_neg h]
theorem hexD_lt {c : UInt8} {d : Nat} (h : hexD c = some d) : d < 16 := by
  unfold hexD at h
  split at h
  · injection h; omega
  · split at h
    · injection h; omega
    · split at h
      · injection h; omega
      · cases h
theorem hexP_some {k n d : Nat} {l : List UInt8} (h : hexD (pk l) = some d) : hexP (k + 1) n l = hexP k (n * 16 + d) l.tail := by
  show (match hexD (pk l) with | some d => hexP k (n * 16 + d) l.tail | none => .no 31 l) = _
  rw [h]
theorem hexP_none {k n : Nat} {l : List UInt8} (h : hexD (pk l) = none) : hexP (k + 1) n l = .no 31 l := by
  show (match hexD (pk l) with | some d => hexP k (n * 16 + d) l.tail | none => .no 31 l) = _
  rw [h]
theorem hexD_pk {l : List UInt8} {d : Nat} (h : hexD (pk l) = some d) : l = pk l :: l.tail := by
  cases l with
  | nil => cases h
  | cons c r => rfl
theorem hex_ (s : ByteArray) (l : List UInt8) (hl : Sfx l (tL s)) (hs : s.size ≤ 1000000) (d o : Int) (H : Hp) : CallO Try.prog 54 [me] H [rdB s l d o] fun e H' G' => H' = H ∧ Out s d o (fun (_ : Hp) (n : Nat) (sv : SV) => n < 65536 ∧ sv = pv (.int .i32 (n : Int))) (hexP 4 0 l) e H' G' := by
  refine CallO.of_body tab Try.func54 rfl (nt := Try.f54.ntmps) rfl (by kernel_rfl) ?_
  (conv => whnf)
  refine WS.loop (fun k F H2 G => ∃ (i n : Nat) (r : List UInt8), Sfx r (tL s) ∧ i ≤ 4 ∧ n < 16 ^ i ∧ hexP (4 - i) n r = hexP 4 0 l ∧ k = 4 - i ∧ F = [(0, me), (3, pv (.int .i32 n)), (6, pv (.int .i64 i))] ∧ H2 = H ∧ G = [rdB s r d o]) 5 ?_ ?_
  · refine ⟨4, by omega, _, _, [0], ⟨0, 0, l, hl, by omega, by decide, rfl, rfl, rfl, rfl, rfl⟩, ?_⟩
    exact ⟨rfl, ⟨rfl, trivial⟩, rfl, rfl, rfl, trivial⟩
  rintro k F H2 G hle ⟨i, n, r, hr, hi, hn, hb, rfl, rfl, rfl, rfl⟩
  refine codeL.go tab ?_
  (conv => whnf)
  refine br.of (fun h1 => ?_) (fun h1 => ?_) <;> (conv => whnf)
  · simp only [decide_eq_true_eq] at h1
    refine ⟨⟨_, Try.func27, rfl, by kernel_rfl⟩, CallS.use (peek_ s r hr d o _) [0] rfl rfl ⟨rfl, trivial⟩ ?_⟩
    rintro e H' G' hle ⟨rfl, rfl, rfl⟩
    (conv => whnf)
    refine br.of (fun h2 => ?_) (fun h2 => ?_) <;> (conv => whnf)
    any_goals (refine br.of (fun h3 => ?_) (fun h3 => ?_) <;> (conv => whnf))
    all_goals (first
      | (rw [lowC_yes (c := pk r) (by have := of_decide_eq_true h2; omega) (by have := of_decide_eq_true h3; omega)]; clear h2 h3)
      | (rw [lowC_no (c := pk r) (by have := of_decide_eq_false h3; omega)]; clear h2 h3)
      | (rw [lowC_no (c := pk r) (by have := of_decide_eq_false h2; omega)]; clear h2))
    all_goals
      refine ⟨⟨_, Try.func28, rfl, by kernel_rfl⟩, CallS.use (indexByte ⟨lowerS.toArray⟩ (lowC (pk r)) _ []) [] rfl rfl trivial ?_⟩
      rintro e H' G' hle ⟨rfl, rfl, rfl⟩
      (conv => whnf)
      have hix : ixB (⟨lowerS.toArray⟩ : ByteArray).data.toList (lowC (pk r)) = _ := ix_hex (pk r)
      have h4 : 4 - i = (4 - (i + 1)) + 1 := by omega
      rw [h4] at hb
      refine br.of (fun h5 => ?_) (fun h5 => ?_) <;> (conv => whnf)
      · cases hx : hexD (pk r) with
        | some dd =>
          rw [hx] at hix
          change _ = (dd : Int) at hix
          have h5 := of_decide_eq_true h5
          omega
        | none =>
          rw [hexP_none hx] at hb
          refine ⟨⟨_, Try.func23, rfl, by kernel_rfl⟩, CallS.use (stop_ s r d o _) [0] rfl rfl ⟨rfl, trivial⟩ ?_⟩
          rintro e H2 G' hle2 ⟨rfl, rfl, rfl⟩
          (conv => whnf)
          rw [← hb]
          exact ⟨rfl, rfl, r, o, rfl⟩
      · have h5 := of_decide_eq_false h5
        cases hx : hexD (pk r) with
        | none =>
          rw [hx] at hix
          change _ = (-1 : Int) at hix
          omega
        | some dd =>
          rw [hx] at hix
          change _ = (dd : Int) at hix
          rw [hexP_some hx] at hb
          have hdd := hexD_lt hx
          have hn2 : n < 4096 := Nat.lt_of_lt_of_le hn (Nat.pow_le_pow_right (by decide : 16 > 0) (by omega : i ≤ 3))
          refine ⟨by decide, ?_⟩
          (conv => whnf)
          rw [hix, wrap32 (x := (dd : Int)) (by omega) (by omega), wrap32 (x := (n : Int) * 2 ^ min (Int.toNat 4) IntKind.i32.bits) (by show _ ≤ (n : Int) * 16; omega) (by show (n : Int) * 16 < _; omega), show (n : Int) * 2 ^ min (Int.toNat 4) IntKind.i32.bits = ((n * 16 : Nat) : Int) by show (n : Int) * 16 = _; omega, or32 (by omega) (by omega), or16 hdd, wrap32 (by omega) (by omega), wrap64 (x := (i : Int) + 1) (by omega) (by omega)]
          have hr2 := hexD_pk hx
          rw [hr2] at hr ⊢
          rw [rd_step hr hs]
          refine ⟨4 - (i + 1), by omega, _, _, [0], ⟨i + 1, n * 16 + dd, r.tail, hr.tail, by omega, by rw [Nat.pow_succ]; omega, hb, rfl, rfl, rfl, rfl⟩, ?_⟩
          exact ⟨rfl, ⟨rfl, trivial⟩, rfl, rfl, rfl, trivial⟩
  · simp only [decide_eq_false_iff_not] at h1
    obtain rfl : i = 4 := by omega
    refine ⟨rfl, ?_⟩
    rw [← hb]
    exact ⟨hr, ⟨_, rfl, by omega, rfl⟩, rfl⟩
end Go.Kx.Js
