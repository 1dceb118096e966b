/- The reference's keys spread. No condition of its own. -/
import Derived.Test.YtjpjpdmceliofaaDoorRef2A
namespace Go.Kx.Sha
open Go.Proofs Go.Kx
set_option maxRecDepth 20000
namespace Ref2

theorem codeO (key msg : List UInt8) (A : Option Addr) (n cap m : Nat) (H : Hp) (hk : BytesAt H A n key) (hmm : m = msg.length) (hn : n ≤ 900000) (hm : m ≤ 900000) :
    CallO Tryd.prog 40 [pv (.slice A n cap), .si (.ce (.self 0))] H [.row 5 1 m (bCells msg)] fun e H' G' => RetB (hmac key msg) e H' ∧ G' = [.dead] := by
  refine CallO.eat 0 (t := 5) (sz := 1) (n := m) (xs := bCells msg) rfl (fun h0 => by have : msg = [] := List.eq_nil_of_length_eq_zero (by omega); rw [this]; rfl) ?_
  intro x H2 hle hfr
  obtain ⟨B, c, rfl, hb⟩ := BytesAt.of_frozen hmm hfr
  refine (CallS.use (code key msg A B n cap m c H2 (hk.mono hle) hb hn hm) [] rfl rfl trivial ?_).to
  rintro e H' G' hle ⟨⟨B, k, c, rfl, hb⟩, rfl⟩
  conv => whnf
  exact ⟨⟨B, k, c, rfl, hb⟩, rfl⟩
theorem expand (key info : List UInt8) (A B : Option Addr) (n cap m c : Nat) (H : Hp) (hk : BytesAt H A n key) (hi : BytesAt H B m info) (hn : n ≤ 100000) (hm : m ≤ 100000) :
    CallO Tryd.prog 26 [pv (.slice A n cap), pv (.slice B m c), pv (.int .i64 32)] H [] fun e _ G' => e = .ret (.si (.ce (.self 0))) ∧ G' = [.row 5 1 32 (bCells (hkdf key info))] := by
  refine CallO.sub (K0 := fun e _ G' => e = .ret (.si (.ce (.self 1))) ∧ G' = [.dead, .row 5 1 32 (bCells (hkdf key info))]) ?_ ?_
  · refine CallO.of_body tab Tryd.func26 rfl (nt := Tryd.f26.ntmps) rfl (by kernel_rfl) ?_
    conv => whnf
    refine WS.nilRow 7 5 1 rfl ?_
    conv => whnf
    refine WS.loop (fun k F H3 G => ∃ (j : Nat) (C : Option Addr) (q r : Nat) (bs : List UInt8), ((j = 0 ∧ bs = [] ∧ C = none ∧ q = 0 ∧ r = 0) ∨ (j = 1 ∧ bs = hkdf key info)) ∧ k = 1 - j ∧ F = [(0, pv (.slice A n cap)), (1, pv (.slice B m c)), (2, pv (.int .i64 32)), (7, .si (.ce (.self 0))), (8, pv (.slice C q r)), (9, pv (.int .i64 (1 + j)))] ∧
        H.Le H3 ∧ BytesAt H3 C q bs ∧ G = [.row 5 1 (32 * j) (bCells bs)]) 2 ?_ ?_
    · refine ⟨1, by omega, _, _, [0], ⟨0, none, 0, 0, [], .inl ⟨rfl, rfl, rfl, rfl, rfl⟩, rfl, rfl, .refl _, ⟨rfl, fun _ => rfl, fun a e => (nomatch e)⟩, rfl⟩, ?_⟩
      exact ⟨rfl, ⟨rfl, trivial⟩, rfl, rfl, rfl, rfl, rfl, rfl, trivial⟩
    rintro k F H3 G hle ⟨j, C, q, r, bs, hj, rfl, rfl, hle2, hb, rfl⟩
    refine codeL.go tab ?_
    rcases hj with ⟨rfl, rfl, rfl, rfl, rfl⟩ | ⟨rfl, rfl⟩
    · conv => whnf
      refine ⟨by decide, .inr ⟨rfl, ?_⟩⟩
      conv => whnf
      refine ⟨by decide, ?_⟩
      conv => whnf
      have him := hi.1
      cases B with
      | none =>
        have hmsg := hi.2.1 rfl
        subst hmsg
        have hm0 : m = 0 := him
        subst hm0
        conv => whnf
        refine ⟨by decide, ?_⟩
        conv => whnf
        refine ⟨by decide, .inl ?_⟩
        intro g H4 hle3 hrd
        conv => whnf
        refine ⟨_, rfl, hrd, one_int _ _, ?_⟩
        conv => whnf
        refine ⟨by show (0 + 0 + 0 + 1) * 2 ≤ _; omega, ?_⟩
        conv => whnf
        refine ⟨⟨_, Tryd.func40, rfl, by kernel_rfl⟩, CallS.use (codeO key ([] ++ [1]) A n cap (0 + 0 + 0 + 1) H4 (hk.mono (hle2.trans hle3)) (by first | (simp; done) | (simp; omega)) (by omega) (by omega)) [4] rfl rfl ⟨?_, trivial⟩ ?_⟩
        · exact rfl
        rintro e H5 G' hle4 ⟨⟨A3, n3, c3, rfl, hb3⟩, rfl⟩
        conv => whnf
        have e1 : hmac key ([] ++ [1]) = hkdf key [] := rfl
        rw [e1] at hb3
        obtain ⟨hq3, hC3, hrd3⟩ := hb3
        cases A3 with
        | none => have := hC3 rfl; have h2 := hkdf_length key []; rw [this] at h2; cases h2
        | some a3 =>
          conv => whnf
          refine ⟨bCells (hkdf key []), by rw [bCells_length, hq3]; exact (Nat.mul_one _).symm, hrd3 a3 rfl, bCells_one _, ?_⟩
          conv => whnf
          have hq4 : n3 = 32 := hq3
          subst hq4
          refine ⟨by decide, ?_⟩
          conv => whnf
          refine ⟨0, by decide, _, _, [5], ⟨1, some a3, 32, c3, hkdf key [], .inr ⟨rfl, rfl⟩, rfl, rfl, hle2.trans (hle3.trans hle4), ⟨rfl, hC3, hrd3⟩, rfl⟩, ?_⟩
          exact ⟨rfl, ⟨rfl, trivial⟩, rfl, rfl, rfl, rfl, rfl, rfl, trivial⟩
      | some b =>
        conv => whnf
        refine ⟨bCells info, by rw [bCells_length, ← him]; exact (Nat.mul_one _).symm, (hi.mono hle2).2.2 b rfl, bCells_one _, ?_⟩
        conv => whnf
        refine ⟨by show (0 + 0 + m) * 2 ≤ _; omega, ?_⟩
        conv => whnf
        refine ⟨by decide, .inl ?_⟩
        intro g H4 hle3 hrd
        conv => whnf
        refine ⟨_, rfl, hrd, one_int _ _, ?_⟩
        conv => whnf
        refine ⟨by show (0 + 0 + m + 1) * 2 ≤ _; omega, ?_⟩
        conv => whnf
        refine ⟨⟨_, Tryd.func40, rfl, by kernel_rfl⟩, CallS.use (codeO key (info ++ [1]) A n cap (0 + 0 + m + 1) H4 (hk.mono (hle2.trans hle3)) (by first | (simp; done) | (simp; omega)) (by omega) (by omega)) [4] rfl rfl ⟨?_, trivial⟩ ?_⟩
        · show SB.row 5 1 (0 + 0 + m + 1) ([] ++ [] ++ bCells info ++ [Value.int .u8 1]) = SB.row 5 1 (0 + 0 + m + 1) (bCells (info ++ [1]))
          rw [List.nil_append, List.nil_append, ← bCells_append]
          rfl
        rintro e H5 G' hle4 ⟨⟨A3, n3, c3, rfl, hb3⟩, rfl⟩
        conv => whnf
        have e1 : hmac key (info ++ [1]) = hkdf key info := rfl
        rw [e1] at hb3
        obtain ⟨hq3, hC3, hrd3⟩ := hb3
        cases A3 with
        | none => have := hC3 rfl; have h2 := hkdf_length key info; rw [this] at h2; cases h2
        | some a3 =>
          conv => whnf
          refine ⟨bCells (hkdf key info), by rw [bCells_length, hq3]; exact (Nat.mul_one _).symm, hrd3 a3 rfl, bCells_one _, ?_⟩
          conv => whnf
          have hq4 : n3 = 32 := hq3
          subst hq4
          refine ⟨by decide, ?_⟩
          conv => whnf
          refine ⟨0, by decide, _, _, [5], ⟨1, some a3, 32, c3, hkdf key info, .inr ⟨rfl, rfl⟩, rfl, rfl, hle2.trans (hle3.trans hle4), ⟨rfl, hC3, hrd3⟩, rfl⟩, ?_⟩
          exact ⟨rfl, ⟨rfl, trivial⟩, rfl, rfl, rfl, rfl, rfl, rfl, trivial⟩
    · conv => whnf
      refine ⟨by decide, ?_⟩
      conv => whnf
      have ec : (List.take ((Int.toNat 32 - Int.toNat 0) * 1) (List.drop (Int.toNat 0 * 1) (bCells (hkdf key info)))) = bCells (hkdf key info) := by
        show List.take 32 (List.drop 0 _) = _
        rw [List.drop_zero, List.take_of_length_le (by rw [bCells_length, hkdf_length]; exact Nat.le_refl _)]
      exact ⟨rfl, by rw [ec]; rfl⟩
  · rintro e H' G' hle ⟨rfl, rfl⟩
    exact ⟨.si (.ce (.self 0)), [.row 5 1 32 (bCells (hkdf key info))], [1], rfl, ⟨rfl, trivial⟩, rfl, rfl, rfl⟩
end Ref2
end Go.Kx.Sha
