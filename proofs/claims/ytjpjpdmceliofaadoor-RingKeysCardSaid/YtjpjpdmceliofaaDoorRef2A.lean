/- The reference's codes. No condition of its own. -/
import Derived.Test.YtjpjpdmceliofaaDoorRef1D
import Derived.Test.YtjpjpdmceliofaaDoorMacD
namespace Go.Kx.Sha
open Go.Proofs Go.Kx
set_option maxRecDepth 20000
namespace Ref2
def T : Tab := [(22, { k := TK.slice 5, agg := false, size := 1, bytes := 24, zero := [Z.sl] }), (3, { k := TK.int IntKind.i64, agg := false, size := 1, bytes := 8, zero := [Z.i IntKind.i64] }), (4, { k := TK.bool, agg := false, size := 1, bytes := 1, zero := [Z.b] }), (5, { k := TK.int IntKind.u8, agg := false, size := 1, bytes := 1, zero := [Z.i IntKind.u8] })]
set_option maxRecDepth 100000 in
theorem tab : TabOk Tryd.prog T := tabOk_mk (ts := [22, 3, 4, 5]) (by kernel_rfl)

theorem padB_get (key : List UInt8) (x : UInt8) {i : Nat} (hi : i < 64) : (padB key x)[i]? = some (if i < (keyOf key).length then x ^^^ (keyOf key).getD i 0 else x) := by
  have hl := keyOf_length key
  unfold padB padBase
  rw [List.getElem?_map]
  by_cases h : i < (keyOf key).length
  · rw [if_pos h, List.getElem?_append_left h, List.getElem?_eq_getElem h, List.getD_eq_getElem?_getD, List.getElem?_eq_getElem h]
    simp [UInt8.xor_comm]
  · rw [if_neg h, List.getElem?_append_right (by omega), List.getElem?_replicate, if_pos (by omega)]
    simp
theorem take_snoc {l : List UInt8} {i : Nat} {b : UInt8} (h : l[i]? = some b) {m : Nat} {v : Int} (hm : m = i + 1) (hv : v = (b.toNat : Int)) (t : TypeId) : SB.row t 1 m (bCells (l.take i) ++ [Value.int .u8 v]) = SB.row t 1 (i + 1) (bCells (l.take (i + 1))) := by
  subst hm hv
  rw [take_get h]
  rw [← bCells_append]
  rfl
theorem bytes_at {H : Hp} {A : Option Addr} {n : Nat} {bs : List UInt8} (hb : BytesAt H A n bs) {i : Nat} (hi : i < n) : (∃ b o, A = some ⟨b, o, none⟩) ∧ ∀ off, off = i → RdC H A off (.int .u8 (bs.getD i 0).toNat) := by
  obtain ⟨hn, hA, hrd⟩ := hb
  cases A with
  | none => have := hA rfl; subst this; subst hn; exact absurd hi (Nat.not_lt_zero _)
  | some a =>
    obtain ⟨b, o, hab, h2⟩ := hrd a rfl
    refine ⟨⟨b, o, hab⟩, fun off ho => ⟨b, o, hab, h2 _ _ (bget (by omega) ho)⟩⟩
def PI (key : List UInt8) (x : UInt8) (B : Option Addr) (n c : Nat) (H : Hp) (k : Nat) (F : Fr) (H2 : Hp) (G : List SB) : Prop :=
  ∃ i : Nat, i ≤ 64 ∧ k = 64 - i ∧ F = [(0, pv (.slice B n c)), (1, pv (.int .u8 x.toNat)), (5, .si (.ce (.self 0))), (6, pv (.int .i64 i))] ∧ H.Le H2 ∧ G = [.row 5 1 i (bCells ((padB key x).take i))]
theorem pad (key : List UInt8) (x : UInt8) (A : Option Addr) (n cap : Nat) (H : Hp) (hk : BytesAt H A n key) (hn : n ≤ 1000000) :
    CallO Tryd.prog 55 [pv (.slice A n cap), pv (.int .u8 x.toNat)] H [] fun e _ G' => e = .ret (.si (.ce (.self 0))) ∧ G' = [.row 5 1 64 (bCells (padB key x))] := by
  refine CallO.of_bodyW tab Tryd.func55 rfl (nt := Tryd.f55.ntmps) rfl (by kernel_rfl) ?_
  refine W.seqS (codeX_ok tab _ ?_)
  conv => whnf
  refine WS.seqTo tab (fun F H2 G => ∃ B m c, F = [(0, pv (.slice B m c)), (1, pv (.int .u8 x.toNat))] ∧ BytesAt H2 B m (keyOf key) ∧ G = []) ?_ ?_
  · conv => whnf
    refine br.of (fun h1 => ?_) (fun h1 => ?_) <;> conv => whnf
    · simp only [gt_iff_lt, decide_eq_true_eq] at h1
      refine ⟨⟨_, Tryd.func54, rfl, by kernel_rfl⟩, CallS.use (Ref1.sumR key A n cap H hk hn) [] rfl rfl trivial ?_⟩
      rintro e H3 G' hle2 ⟨⟨B, m, c, rfl, hb⟩, rfl⟩
      conv => whnf
      refine ⟨_, _, [], ⟨B, m, c, rfl, ?_, rfl⟩, rfl, trivial, rfl, rfl, trivial⟩
      unfold keyOf
      rw [if_pos (by have := hk.1; omega)]
      exact hb
    · simp only [gt_iff_lt, decide_eq_false_iff_not] at h1
      refine ⟨_, _, [], ⟨A, n, cap, rfl, ?_, rfl⟩, rfl, trivial, rfl, rfl, trivial⟩
      unfold keyOf
      rw [if_neg (by have := hk.1; omega)]
      exact hk
  · rintro F H2 G hle ⟨B, m, c, rfl, hb, rfl⟩
    refine codeL.go tab ?_
    conv => whnf
    have hkl := keyOf_length key
    refine WS.nilRow 5 5 1 rfl ?_
    conv => whnf
    refine WS.loop (PI key x B m c H2) 65 ?_ ?_
    · refine ⟨64, by omega, _, _, [0], ⟨0, by omega, rfl, rfl, .refl _, rfl⟩, ?_⟩
      exact ⟨rfl, ⟨rfl, trivial⟩, rfl, rfl, rfl, rfl, trivial⟩
    rintro k F H3 G hle2 ⟨i, hi, rfl, rfl, hle3, rfl⟩
    refine codeL.go tab ?_
    conv => whnf
    refine br.of (fun h1 => ?_) (fun h1 => ?_) <;> conv => whnf
    · simp only [decide_eq_true_eq] at h1
      have hx := padB_get key x (i := i) (by omega)
      have hm := hb.1
      refine br.of (fun h2 => ?_) (fun h2 => ?_) <;> conv => whnf
      · simp only [decide_eq_true_eq] at h2
        rw [if_pos (by omega)] at hx
        obtain ⟨hB, hrd⟩ := bytes_at (hb.mono hle3) (i := i) (by omega)
        refine ⟨⟨by omega, h2⟩, hB, ?_⟩
        conv => whnf
        refine ⟨_, hrd _ (by simp), ?_⟩
        conv => whnf
        rw [xor8]
        refine ⟨by decide, .inl ?_⟩
        intro g H4 hle4 hrd
        conv => whnf
        refine ⟨_, rfl, hrd, one_int _ _, ?_⟩
        conv => whnf
        refine ⟨by show _ * 2 ≤ _; omega, ?_⟩
        conv => whnf
        rw [wrap64 (x := (i : Int) + 1) (by omega) (by omega)]
        refine ⟨64 - (i + 1), by omega, _, _, [1], ⟨i + 1, by omega, rfl, rfl, hle3.trans hle4, rfl⟩, ?_⟩
        refine ⟨rfl, ⟨take_snoc hx rfl rfl _, trivial⟩, rfl, rfl, rfl, rfl, trivial⟩
      · simp only [decide_eq_false_iff_not] at h2
        rw [if_neg (by omega)] at hx
        refine ⟨by decide, .inl ?_⟩
        intro g H4 hle4 hrd
        conv => whnf
        refine ⟨_, rfl, hrd, one_int _ _, ?_⟩
        conv => whnf
        refine ⟨by show _ * 2 ≤ _; omega, ?_⟩
        conv => whnf
        rw [wrap64 (x := (i : Int) + 1) (by omega) (by omega)]
        refine ⟨64 - (i + 1), by omega, _, _, [1], ⟨i + 1, by omega, rfl, rfl, hle3.trans hle4, rfl⟩, ?_⟩
        refine ⟨rfl, ⟨take_snoc hx rfl rfl _, trivial⟩, rfl, rfl, rfl, rfl, trivial⟩
    · simp only [decide_eq_false_iff_not] at h1
      obtain rfl : i = 64 := by omega
      refine ⟨rfl, ?_⟩
      rw [List.take_of_length_le (by rw [padB_length]; exact Nat.le_refl _)]
theorem code (key msg : List UInt8) (A B : Option Addr) (n cap m c : Nat) (H : Hp) (hk : BytesAt H A n key) (hp : BytesAt H B m msg) (hn : n ≤ 900000) (hm : m ≤ 900000) :
    CallO Tryd.prog 40 [pv (.slice A n cap), pv (.slice B m c)] H [] fun e H' G' => RetB (hmac key msg) e H' ∧ G' = [] := by
  refine CallO.of_body tab Tryd.func40 rfl (nt := Tryd.f40.ntmps) rfl (by kernel_rfl) ?_
  conv => whnf
  refine ⟨⟨_, Tryd.func55, rfl, by kernel_rfl⟩, CallS.use (pad key 0x36 A n cap H hk (by omega)) [] rfl rfl trivial ?_⟩
  rintro e H2 G' hle ⟨rfl, rfl⟩
  conv => whnf
  have hpl : ∀ x, (padB key x).length = 64 := padB_length key
  have hmm := hp.1
  cases B with
  | none =>
    have hmsg := hp.2.1 rfl
    subst hmsg
    conv => whnf
    have hm0 : m = 0 := hmm
    subst hm0
    conv => whnf
    refine ⟨by decide, ?_⟩
    conv => whnf
    refine ⟨⟨_, Tryd.func54, rfl, by kernel_rfl⟩, CallS.use (Ref1.sumO (padB key 0x36 ++ []) (64 + 0) H2 (by rw [List.length_append, hpl]; rfl) (by omega)) [1] rfl rfl ⟨by rw [List.append_nil, List.append_nil]; rfl, trivial⟩ ?_⟩
    rintro e H3 G' hle2 ⟨⟨A3, n3, c3, rfl, hb3⟩, rfl⟩
    conv => whnf
    have h3l : n3 = 32 := hb3.1
    subst h3l
    refine ⟨⟨_, Tryd.func55, rfl, by kernel_rfl⟩, CallS.use (pad key 0x5c A n cap H3 (hk.mono (hle.trans hle2)) (by omega)) [] rfl rfl trivial ?_⟩
    rintro e H4 G' hle3 ⟨rfl, rfl⟩
    conv => whnf
    obtain ⟨hq, hC, hrd3⟩ := hb3.mono hle3
    cases A3 with
    | none => have := hC rfl; have h2 := sha_length (padB key 0x36 ++ []); rw [this] at h2; cases h2
    | some a3 =>
      conv => whnf
      refine ⟨bCells (sha (padB key 0x36 ++ [])), rfl, hrd3 a3 rfl, bCells_one _, ?_⟩
      conv => whnf
      refine ⟨by decide, ?_⟩
      conv => whnf
      refine ⟨⟨_, Tryd.func54, rfl, by kernel_rfl⟩, CallS.use (Ref1.sumO (padB key 0x5c ++ sha (padB key 0x36 ++ [])) 96 H4 (by rw [List.length_append, hpl, sha_length]) (by decide)) [3] rfl rfl ⟨by rw [bCells_append]; rfl, trivial⟩ ?_⟩
      rintro e H5 G' hle4 ⟨⟨A5, n5, c5, rfl, hb5⟩, rfl⟩
      conv => whnf
      exact ⟨⟨A5, n5, c5, rfl, hb5⟩, rfl⟩
  | some b =>
    conv => whnf
    refine ⟨bCells msg, by rw [bCells_length, ← hmm]; exact (Nat.mul_one _).symm, (hp.mono hle).2.2 b rfl, bCells_one _, ?_⟩
    conv => whnf
    refine ⟨by show (64 + m) * 2 ≤ _; omega, ?_⟩
    conv => whnf
    refine ⟨⟨_, Tryd.func54, rfl, by kernel_rfl⟩, CallS.use (Ref1.sumO (padB key 0x36 ++ msg) (64 + m) H2 (by rw [List.length_append, hpl, hmm]) (by omega)) [1] rfl rfl ⟨by rw [bCells_append]; rfl, trivial⟩ ?_⟩
    rintro e H3 G' hle2 ⟨⟨A3, n3, c3, rfl, hb3⟩, rfl⟩
    conv => whnf
    have h3l : n3 = 32 := hb3.1
    subst h3l
    refine ⟨⟨_, Tryd.func55, rfl, by kernel_rfl⟩, CallS.use (pad key 0x5c A n cap H3 (hk.mono (hle.trans hle2)) (by omega)) [] rfl rfl trivial ?_⟩
    rintro e H4 G' hle3 ⟨rfl, rfl⟩
    conv => whnf
    obtain ⟨hq, hC, hrd3⟩ := hb3.mono hle3
    cases A3 with
    | none => have := hC rfl; have h2 := sha_length (padB key 0x36 ++ msg); rw [this] at h2; cases h2
    | some a3 =>
      conv => whnf
      refine ⟨bCells (sha (padB key 0x36 ++ msg)), rfl, hrd3 a3 rfl, bCells_one _, ?_⟩
      conv => whnf
      refine ⟨by decide, ?_⟩
      conv => whnf
      refine ⟨⟨_, Tryd.func54, rfl, by kernel_rfl⟩, CallS.use (Ref1.sumO (padB key 0x5c ++ sha (padB key 0x36 ++ msg)) 96 H4 (by rw [List.length_append, hpl, sha_length]) (by decide)) [3] rfl rfl ⟨by rw [bCells_append]; rfl, trivial⟩ ?_⟩
      rintro e H5 G' hle4 ⟨⟨A5, n5, c5, rfl, hb5⟩, rfl⟩
      conv => whnf
      exact ⟨⟨A5, n5, c5, rfl, hb5⟩, rfl⟩
end Ref2
end Go.Kx.Sha
