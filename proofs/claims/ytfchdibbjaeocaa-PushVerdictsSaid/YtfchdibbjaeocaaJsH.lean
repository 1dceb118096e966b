/- Values as texts: arrays and objects are entered; plain values made. No condition of its own. -/
import Derived.Test.YtfchdibbjaeocaaJsG
namespace Go.Kx.Js
open Go.Proofs Go.Kx Go.RowKit
set_option maxRecDepth 20000
theorem enter_ (c : UInt8) (hc : c ≠ 0) (s : ByteArray) (l : List UInt8) (hl : Sfx l (tL s)) (hs : s.size ≤ 200000) (d o : Int) (ho : 0 ≤ o ∧ o ≤ 1000) (H : Hp) : CallO Try.prog 44 [me, pv (.int .u8 (c.toNat : Int))] H [rdB s l d o] fun e H' G' => H' = H ∧
    (o = d → e = .pan [{ v := faultV 32 (pos s l), recovered := false }] ∧ G' = [rdB s l d o]) ∧ (o ≠ d → Out s d (o + 1) RU (enterP c l) e H' G') := by
  refine CallO.of_body tab Try.func44 rfl (nt := Try.f44.ntmps) rfl (by kernel_rfl) ?_
  (conv => whnf)
  refine WS.draw tab mixed (.take 0 (.take 1 (.take 2 (.take 3 (.take 4 (.take 5 (.take 6 (.take 7 (.take 8 .done))))))))) (by kernel_rfl) [] ?_
  (conv => whnf)
  refine br.of (fun h1 => ?_) (fun h1 => ?_) <;> (conv => whnf)
  · simp only [beq_iff_eq] at h1
    refine ⟨⟨_, Try.func37, rfl, by kernel_rfl⟩, CallS.use (fail_ 32 (pos s l : Nat) s l d o _) [0] rfl rfl ⟨rfl, trivial⟩ ?_⟩
    rintro e H2 G' hle2 ⟨rfl, rfl, rfl⟩
    (conv => whnf)
    exact ⟨rfl, fun _ => ⟨rfl, rfl⟩, fun h => absurd h1 h⟩
  · simp only [beq_eq_false_iff_ne, ne_eq] at h1
    refine ⟨⟨_, Try.func41, rfl, by kernel_rfl⟩, CallS.use (must_ c hc s l hl (by omega) d o _) [0] rfl rfl ⟨rfl, trivial⟩ ?_⟩
    rintro e H' G' hle ⟨rfl, hout⟩
    unfold enterP
    cases hm : mustP c l with
    | no er r =>
      rw [hm] at hout
      obtain ⟨rfl, l2, o2, rfl⟩ := hout
      (conv => whnf)
      exact ⟨rfl, fun h => absurd h h1, fun _ => ⟨rfl, l2, o2, rfl⟩⟩
    | ok u l1 =>
      rw [hm] at hout
      obtain ⟨hl1, ⟨sv, rfl, rfl⟩, rfl⟩ := hout
      (conv => whnf)
      rw [wrap64 (x := o + 1) (by omega) (by omega)]
      refine ⟨⟨_, Try.func21, rfl, by kernel_rfl⟩, CallS.use (blank_ s l1 hl1 (by omega) d (o + 1) _) [0] rfl rfl ⟨rfl, trivial⟩ ?_⟩
      rintro e H2 G' hle2 ⟨rfl, rfl, rfl⟩
      (conv => whnf)
      exact ⟨rfl, fun h => absurd h h1, fun _ => ⟨(blankP_sfx l1).trans hl1, ⟨_, rfl, rfl⟩, rfl⟩⟩
abbrev agJ (k : Int) (y : Bool) (t : ByteArray) (A : Option Addr) (n c : Nat) (B : Option Addr) (m e : Nat) : SV := .si (.ag [.val (.int .i64 k), .val (.bool y), .val (.string t), .val (.slice A n c), .val (.slice B m e)])
theorem str_ (t : ByteArray) (H : Hp) : CallO Try.prog 31 [pv (.string t)] H [] fun e H' G' => H' = H ∧ e = .ret (agJ 4 false t none 0 0 none 0 0) ∧ G' = [] := by
  refine CallO.of_body tab Try.func31 rfl (nt := Try.f31.ntmps) rfl (by kernel_rfl) ?_
  (conv => whnf)
  exact ⟨rfl, rfl, rfl⟩
theorem bool_ (y : Bool) (H : Hp) : CallO Try.prog 30 [pv (.bool y)] H [] fun e H' G' => H' = H ∧ e = .ret (agJ 2 y ⟨#[]⟩ none 0 0 none 0 0) ∧ G' = [] := by
  refine CallO.of_body tab Try.func30 rfl (nt := Try.f30.ntmps) rfl (by kernel_rfl) ?_
  (conv => whnf)
  exact ⟨rfl, rfl, rfl⟩
end Go.Kx.Js
