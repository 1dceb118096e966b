/- Keys spread. No condition of its own. -/
import Derived.Test.YtjpjpdmceliofaaDoorMacC
namespace Go.Kx.Sha
open Go.Proofs Go.Kx
set_option maxRecDepth 20000
/-- HKDF's spreading, one block. -/
def hkdf (key info : List UInt8) : List UInt8 := hmac key (info ++ [1])
theorem hkdf_length (key info : List UInt8) : (hkdf key info).length = 32 := rfl
theorem one_byte (x : Int) (b : UInt8) (h : x = (b.toNat : Int)) : [Value.int .u8 x] = bCells [b] := by rw [h]; rfl
theorem expand (key info : List UInt8) (A B : Option Addr) (n cap m c : Nat) (H : Hp) (hk : BytesAt H A n key) (hi : BytesAt H B m info) (hn : n ≤ 1000000) (hm : m ≤ 1000000) :
    CallO Tryd.prog 39 [pv (.slice A n cap), pv (.slice B m c), pv (.int .i64 32)] H [] fun e _ G' => e = .ret (.tu [.ce (.self 0), .ce (.val (.int .i64 0))]) ∧ G' = [.row 5 1 32 (bCells (hkdf key info))] := by
  refine CallO.sub (K0 := fun e _ G' => e = .ret (.tu [.ce (.self 2), .ce (.val (.int .i64 0))]) ∧ ∃ X, G' = [.dead, X, .row 5 1 32 (bCells (hkdf key info))]) ?_ ?_
  · refine CallO.of_body MacB.tab Tryd.func39 rfl (nt := Tryd.f39.ntmps) rfl (by kernel_rfl) ?_
    conv => whnf
    refine WS.nilRow 8 5 1 rfl ?_
    conv => whnf
    refine WS.loop (fun k F H3 G => ∃ (j : Nat) (C : Option Addr) (q r : Nat) (bs : List UInt8), ((j = 0 ∧ bs = []) ∨ (j = 1 ∧ bs = hkdf key info)) ∧ k = 1 - j ∧ F = [(0, pv (.slice A n cap)), (1, pv (.slice B m c)), (2, pv (.int .i64 32)), (8, .si (.ce (.self 0))), (9, pv (.slice C q r)), (10, pv (.int .u8 (1 + j)))] ∧
        H.Le H3 ∧ BytesAt H3 C q bs ∧ G = [.row 5 1 (32 * j) (bCells bs)]) 2 ?_ ?_
    · refine ⟨1, by omega, _, _, [0], ⟨0, none, 0, 0, [], .inl ⟨rfl, rfl⟩, rfl, rfl, .refl _, ⟨rfl, fun _ => rfl, fun a e => (nomatch e)⟩, rfl⟩, ?_⟩
      exact ⟨rfl, ⟨rfl, trivial⟩, rfl, rfl, rfl, rfl, rfl, rfl, trivial⟩
    rintro k F H3 G hle ⟨j, C, q, r, bs, hj, rfl, rfl, hle2, hb, rfl⟩
    refine codeL.go MacB.tab ?_
    rcases hj with ⟨rfl, rfl⟩ | ⟨rfl, rfl⟩
    · conv => whnf
      refine ⟨by decide, .inl ?_⟩
      intro g H4 hle3 hrd
      conv => whnf
      refine ⟨by decide, .inl ?_⟩
      intro g2 H5 hle4 hrd2
      conv => whnf
      have hps : PartsAt H5 (some ⟨g2, 0, none⟩) 3 [[], info, [1]] := ⟨_, rfl, hrd2, .cons ⟨C, q, r, rfl, hb.mono (hle3.trans hle4)⟩ (.cons ⟨B, m, c, rfl, hi.mono (hle2.trans (hle3.trans hle4))⟩ (.cons ⟨_, 1, 1, rfl, BytesAt.lit rfl (hrd.mono hle4)⟩ .nil))⟩
      have hil := hi.1
      refine ⟨⟨_, Tryd.func53, rfl, by kernel_rfl⟩, CallS.use (code key [[], info, [1]] A _ n cap 3 3 H5 (hk.mono (hle2.trans (hle3.trans hle4))) hps hn (by decide) (by simp; omega)) [] rfl rfl trivial ?_⟩
      rintro e H6 G' hle5 ⟨⟨C2, q2, r2, rfl, hb2⟩, rfl⟩
      conv => whnf
      have e1 : hmac key [[], info, [1]].flatten = hkdf key info := by unfold hkdf; simp
      rw [e1] at hb2
      obtain ⟨hq2, hC2, hrd3⟩ := hb2
      cases C2 with
      | none => have := hC2 rfl; have h2 := hkdf_length key info; rw [this] at h2; cases h2
      | some a2 =>
        refine ⟨bCells (hkdf key info), by rw [bCells_length, hq2]; exact (Nat.mul_one _).symm, hrd3 a2 rfl, bCells_one _, ?_⟩
        conv => whnf
        have hq3 : q2 = 32 := hq2
        subst hq3
        refine ⟨by decide, ?_⟩
        conv => whnf
        refine ⟨0, by decide, _, _, [1], ⟨1, some a2, 32, r2, hkdf key info, .inr ⟨rfl, rfl⟩, rfl, rfl, hle2.trans (hle3.trans (hle4.trans hle5)), ⟨rfl, hC2, hrd3⟩, rfl⟩, ?_⟩
        exact ⟨rfl, ⟨rfl, trivial⟩, rfl, rfl, rfl, rfl, rfl, rfl, trivial⟩
    · conv => whnf
      refine ⟨by decide, ?_⟩
      conv => whnf
      have ec : (List.take ((Int.toNat 32 - Int.toNat 0) * 1) (List.drop (Int.toNat 0 * 1) (bCells (hkdf key info)))) = bCells (hkdf key info) := by
        show List.take 32 (List.drop 0 _) = _
        rw [List.drop_zero, List.take_of_length_le (by rw [bCells_length, hkdf_length]; exact Nat.le_refl _)]
      rw [ec]
      refine ⟨bCells_one _, ?_⟩
      conv => whnf
      refine ⟨by decide, ?_⟩
      conv => whnf
      exact ⟨rfl, _, rfl⟩
  · rintro e H' G' hle ⟨rfl, X, rfl⟩
    exact ⟨.tu [.ce (.self 0), .ce (.val (.int .i64 0))], [.row 5 1 32 (bCells (hkdf key info))], [2], rfl, ⟨rfl, trivial⟩, rfl, rfl, rfl⟩
end Go.Kx.Sha
