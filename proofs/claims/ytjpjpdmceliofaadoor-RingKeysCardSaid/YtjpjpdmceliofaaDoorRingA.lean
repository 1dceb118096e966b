/- Rings of keys. No condition of its own. -/
import Derived.Test.YtjpjpdmceliofaaDoorMacD
import Derived.Test.YtjpjpdmceliofaaDoorLibA
namespace Go.Kx.Ring
open Go.Proofs Go.Kx Go.Kx.Sha Go.Kx.Lb
set_option maxRecDepth 20000
def T : Tab := [(22, { k := TK.slice 5, agg := false, size := 1, bytes := 24, zero := [Z.sl] }), (3, { k := TK.int IntKind.i64, agg := false, size := 1, bytes := 8, zero := [Z.i IntKind.i64] }), (24, { k := TK.ptr 47, agg := false, size := 1, bytes := 8, zero := [Z.p] }), (25, { k := TK.int IntKind.i64, agg := false, size := 1, bytes := 8, zero := [Z.i IntKind.i64] }), (4, { k := TK.bool, agg := false, size := 1, bytes := 1, zero := [Z.b] }), (47, { k := TK.st [(0, 22, 1), (1, 3, 1)], agg := true, size := 2, bytes := 32, zero := [Z.sl, Z.i IntKind.i64] }), (29, { k := TK.slice 9, agg := false, size := 1, bytes := 24, zero := [Z.sl] }), (9, { k := TK.string, agg := false, size := 1, bytes := 16, zero := [Z.s] }), (5, { k := TK.int IntKind.u8, agg := false, size := 1, bytes := 1, zero := [Z.i IntKind.u8] }), (61, { k := TK.ifc, agg := false, size := 1, bytes := 16, zero := [Z.ifc] })]
set_option maxRecDepth 100000 in
theorem tab : TabOk Tryd.prog T := tabOk_mk (ts := [22, 3, 24, 25, 4, 47, 29, 9, 5, 61]) (by kernel_rfl)
theorem mixed : Tryd.prog.follows .mixedOrders = true := by kernel_rfl

/-- Values that are read for good. -/
def VAt (H : Hp) (A : Option Addr) (n : Nat) (vs : List Value) : Prop := n = vs.length ∧ (A = none → vs = []) ∧ ∀ a, A = some a → RdN H (some a) 0 vs
theorem VAt.mono {H H' : Hp} (h : H.Le H') {A : Option Addr} {n : Nat} {vs : List Value} (hb : VAt H A n vs) : VAt H' A n vs := ⟨hb.1, hb.2.1, fun a e => (hb.2.2 a e).mono h⟩
theorem VAt.of_frozen {H : Hp} {x : Value} {n : Nat} {vs : List Value} (hn : n = vs.length) (h : Frozen H x n vs) : ∃ A cap, x = .slice A n cap ∧ VAt H A n vs := by
  rcases h with ⟨rfl, h1, h2⟩ | ⟨g, o, cap, rfl, _, h2⟩
  · subst h1
    exact ⟨none, 0, rfl, hn, fun _ => h2, fun a e => (nomatch e)⟩
  · exact ⟨_, cap, rfl, hn, fun e => (nomatch e), fun a e => by injection e with e; subst e; exact h2⟩
theorem VAt.get {H : Hp} {A : Option Addr} {n : Nat} {vs : List Value} (h : VAt H A n vs) {i : Nat} {v : Value} (hi : vs[i]? = some v) {off : Nat} (ho : off = i) : RdC H A off v := by
  subst ho
  obtain ⟨h1, h2, h3⟩ := h
  cases A with
  | none => rw [h2 rfl] at hi; simp at hi
  | some a =>
    obtain ⟨b, o, e1, e2⟩ := h3 a rfl
    exact ⟨b, o, e1, by have := e2 _ _ hi; simpa using this⟩
theorem VAt.addr {H : Hp} {A : Option Addr} {n : Nat} {vs : List Value} (h : VAt H A n vs) (h0 : 0 < n) : ∃ b o, A = some ⟨b, o, none⟩ := by
  obtain ⟨h1, h2, h3⟩ := h
  cases A with
  | none => rw [h2 rfl] at h1; simp at h1; omega
  | some a =>
    obtain ⟨b, o, e1, _⟩ := h3 a rfl
    exact ⟨b, o, e1⟩

theorem clone (bs : List UInt8) (A : Option Addr) (n cap : Nat) (H : Hp) (hb : BytesAt H A n bs) (h0 : 0 < n) (hn : n ≤ 1000000) :
    CallO Tryd.prog 20 [pv (.slice A n cap)] H [] fun e H' G' => RetB bs e H' ∧ G' = [] := by
  refine CallO.bytes (t := 5) hb.1 ?_
  refine CallO.of_body tab Tryd.func20 rfl (nt := Tryd.f20.ntmps) rfl (by kernel_rfl) ?_
  conv => whnf
  obtain ⟨h1, h2, h3⟩ := hb
  cases A with
  | none => rw [h2 rfl] at h1; simp at h1; omega
  | some a =>
    conv => whnf
    refine ⟨by decide, .inl ?_⟩
    intro g H2 hle hrd
    conv => whnf
    refine ⟨bCells bs, by rw [bCells_length, h1]; exact (Nat.mul_one _).symm, (h3 a rfl).mono hle, bCells_one bs, fun h => absurd h (by omega), fun _ => ⟨rfl, [], rfl, hrd, by show _ * 2 ≤ _; omega, ?_⟩⟩
    conv => whnf
    exact ⟨rfl, by rw [Nat.zero_add]; rfl⟩
/-- A ring: its master is read for good. -/
def ringB (A : Option Addr) (n cap : Nat) (count : Int) : SB := .box 47 [.val (.slice A n cap), .val (.int .i64 count)]
theorem new_ (bs : List UInt8) (A : Option Addr) (n cap : Nat) (count : Int) (H : Hp) (hb : BytesAt H A n bs) (hn : n ≤ 1000000) :
    CallO Tryd.prog 7 [pv (.slice A n cap), pv (.int .i64 count)] H [] fun e H' G' =>
      (n < 32 → e = .ret (.tu [.ce (.val (.pointer none)), .ce (.val (.int .i64 41))]) ∧ G' = []) ∧ (¬ n < 32 → ¬ (1 ≤ count ∧ count ≤ 1099511627776) → e = .ret (.tu [.ce (.val (.pointer none)), .ce (.val (.int .i64 12))]) ∧ G' = []) ∧
      (¬ n < 32 → (1 ≤ count ∧ count ≤ 1099511627776) → e = .ret (.tu [.ce (.ptr 0 0), .ce (.val (.int .i64 0))]) ∧ ∃ B m c, BytesAt H' B m bs ∧ G' = [ringB B m c count]) := by
  refine CallO.of_body tab Tryd.func7 rfl (nt := Tryd.f7.ntmps) rfl (by kernel_rfl) ?_
  conv => whnf
  refine br.of (fun h1 => ?_) (fun h1 => ?_) <;> conv => whnf
  · simp only [decide_eq_true_eq] at h1
    exact ⟨fun _ => ⟨rfl, rfl⟩, fun h => absurd (by omega) h, fun h => absurd (by omega) h⟩
  · simp only [decide_eq_false_iff_not] at h1
    refine br.of (fun h2 => ?_) (fun h2 => ?_) <;> conv => whnf
    · simp only [decide_eq_true_eq] at h2
      exact ⟨fun h => absurd h (by omega), fun _ _ => ⟨rfl, rfl⟩, fun _ h => absurd h (by omega)⟩
    · simp only [decide_eq_false_iff_not] at h2
      refine br.of (fun h3 => ?_) (fun h3 => ?_) <;> conv => whnf
      · simp only [gt_iff_lt, decide_eq_true_eq] at h3
        exact ⟨fun h => absurd h (by omega), fun _ _ => ⟨rfl, rfl⟩, fun _ h => absurd h (by omega)⟩
      · simp only [gt_iff_lt, decide_eq_false_iff_not] at h3
        refine ⟨⟨_, Tryd.func20, rfl, by kernel_rfl⟩, CallS.use (clone bs A n cap H hb (by omega) hn) [] rfl rfl trivial ?_⟩
        rintro e H2 G' hle ⟨⟨B, m, c, rfl, hb2⟩, rfl⟩
        conv => whnf
        exact ⟨fun h => absurd h (by omega), fun _ h => absurd ⟨by omega, by omega⟩ h, fun _ _ => ⟨rfl, B, m, c, hb2, rfl⟩⟩
theorem count_ (A : Option Addr) (n cap : Nat) (count : Int) (H : Hp) : CallO Tryd.prog 11 [.si (.ce (.ptr 0 0))] H [ringB A n cap count] fun e H' G' => e = .ret (pv (.int .i64 count)) ∧ H' = H ∧ G' = [ringB A n cap count] := by
  refine CallO.of_body tab Tryd.func11 rfl (nt := Tryd.f11.ntmps) rfl (by kernel_rfl) ?_
  conv => whnf
  exact ⟨rfl, rfl, rfl⟩
theorem rotate (A : Option Addr) (n cap : Nat) (count : Int) (hc : 1 ≤ count) (hc2 : count ≤ 1099511627776) (H : Hp) : CallO Tryd.prog 8 [.si (.ce (.ptr 0 0))] H [ringB A n cap count] fun e H' G' =>
    (count = 1099511627776 → e = .ret (pv (.int .i64 14)) ∧ G' = [ringB A n cap count]) ∧ (count ≠ 1099511627776 → e = .ret (pv (.int .i64 0)) ∧ G' = [ringB A n cap (count + 1)]) ∧ H' = H := by
  refine CallO.of_body tab Tryd.func8 rfl (nt := Tryd.f8.ntmps) rfl (by kernel_rfl) ?_
  conv => whnf
  refine br.of (fun h1 => ?_) (fun h1 => ?_) <;> conv => whnf
  · simp only [beq_iff_eq] at h1
    exact ⟨fun _ => ⟨rfl, rfl⟩, fun h => absurd h1 h, rfl⟩
  · simp only [beq_eq_false_iff_ne, ne_eq] at h1
    rw [wrap64 (by omega) (by omega)]
    exact ⟨fun h => absurd h h1, fun _ => ⟨rfl, rfl⟩, rfl⟩
def oldest (count : Int) : Int := maxB 1 (count - 8 + 1)
theorem oldest_ (A : Option Addr) (n cap : Nat) (count : Int) (hc : 1 ≤ count) (hc2 : count ≤ 1099511627776) (H : Hp) : CallO Tryd.prog 22 [.si (.ce (.ptr 0 0))] H [ringB A n cap count] fun e H' G' => e = .ret (pv (.int .i64 (oldest count))) ∧ H' = H ∧ G' = [ringB A n cap count] := by
  refine CallO.of_body tab Tryd.func22 rfl (nt := Tryd.f22.ntmps) rfl (by kernel_rfl) ?_
  conv => whnf
  refine ⟨?_, rfl, rfl⟩
  rw [wrap64 (x := count - 8) (by omega) (by omega), wrap64 (x := count - 8 + 1) (by omega) (by omega)]; rfl
def kidB (n : Int) : ByteArray := ⟨#[107]⟩ ++ itoaB n
theorem nDigits_le : ∀ k u, u < 10 ^ (k + 1) → Lib.nDigits u ≤ k + 1
  | 0, u, hu => by rw [Lib.nDigits_small (by omega)]; omega
  | k + 1, u, hu => by
    by_cases h : u < 10
    · rw [Lib.nDigits_small h]; omega
    · rw [Lib.nDigits_big h]
      have := nDigits_le k (u / 10) (by rw [Nat.pow_succ] at hu; omega)
      omega
theorem itoa_size (n : Int) (h : -9223372036854775808 ≤ n) (h2 : n ≤ 9223372036854775807) : (itoaB n).size ≤ 20 := by
  show (Lib.itoa n).toArray.size ≤ 20
  unfold Lib.itoa
  rw [List.size_toArray]
  split
  · have := nDigits_le 18 n.natAbs (by omega)
    rw [List.length_cons, Lib.decDigits_length]; omega
  · have := nDigits_le 18 n.toNat (by omega)
    rw [Lib.decDigits_length]; omega
theorem name_ (n : Int) (h0 : -9223372036854775808 ≤ n) (h1 : n ≤ 9223372036854775807) (H : Hp) : CallO Tryd.prog 23 [pv (.int .i64 n)] H [] fun e H' G' => e = .ret (pv (.string (kidB n))) ∧ H' = H ∧ G' = [] := by
  have hs := itoa_size n h0 h1
  refine CallO.of_body tab Tryd.func23 rfl (nt := Tryd.f23.ntmps) rfl (by kernel_rfl) ?_
  conv => whnf
  refine ⟨⟨_, Tryd.func36, rfl, by kernel_rfl⟩, CallS.use (itoa n h0 h1 H []) [] rfl rfl trivial ?_⟩
  rintro e H2 G' hle ⟨rfl, rfl, rfl⟩
  conv => whnf
  refine ⟨by show 1 + _ ≤ _; omega, ?_⟩
  conv => whnf
  exact ⟨rfl, rfl, rfl⟩
/-- The names of so many keys. -/
def kidsB (count : Int) : List ByteArray := (List.range (count - oldest count + 1).toNat).map fun i : Nat => kidB (oldest count + i)
def kidsUp (count : Int) (i : Nat) : List ByteArray := (List.range i).map fun j : Nat => kidB (oldest count + j)
theorem kidsUp_succ (count : Int) (i : Nat) : kidsUp count (i + 1) = kidsUp count i ++ [kidB (oldest count + i)] := by unfold kidsUp; rw [List.range_succ, List.map_append]; rfl
def strV (l : List ByteArray) : List Value := l.map .string
theorem oldest_le (count : Int) (hc : 1 ≤ count) : 1 ≤ oldest count ∧ oldest count ≤ count ∧ count - oldest count ≤ 7 := by unfold oldest maxB; split <;> omega
theorem kids_ (A : Option Addr) (n cap : Nat) (count : Int) (hc : 1 ≤ count) (hc2 : count ≤ 1099511627776) (H : Hp) : CallO Tryd.prog 10 [.si (.ce (.ptr 0 0))] H [ringB A n cap count] fun e H' G' =>
    (∃ B m c, e = .ret (pv (.slice B m c)) ∧ VAt H' B m (strV (kidsB count))) ∧ G' = [ringB A n cap count] := by
  refine CallO.sub (K0 := fun e H' G' => (∃ B m c, e = .ret (pv (.slice B m c)) ∧ VAt H' B m (strV (kidsB count))) ∧ ∃ L, G' = ringB A n cap count :: L) (CallO.frz (K0 := fun e _ G' => ∃ j t L, e = .ret (.si (.ce (.self (j + 1)))) ∧ G' = ringB A n cap count :: L ∧ L[j]? = some (.row t 1 (kidsB count).length (strV (kidsB count)))) ?_ ?_) ?_
  · refine CallO.of_body tab Tryd.func10 rfl (nt := Tryd.f10.ntmps) rfl (by kernel_rfl) ?_
    conv => whnf
    refine ⟨⟨_, Tryd.func22, rfl, by kernel_rfl⟩, CallS.use (oldest_ A n cap count hc hc2 H) [0] rfl rfl ⟨rfl, trivial⟩ ?_⟩
    rintro e H2 G' hle ⟨rfl, rfl, rfl⟩
    conv => whnf
    obtain ⟨o1, o2, o3⟩ := oldest_le count hc
    refine WS.nilRow 3 9 1 rfl ?_
    conv => whnf
    refine WS.loop (fun k F H3 G => ∃ i : Nat, (i : Int) ≤ count - oldest count + 1 ∧ k = 10 - i ∧ F = [(0, .si (.ce (.ptr 0 0))), (3, .si (.ce (.self 1))), (4, pv (.int .i64 (oldest count + i)))] ∧ H2.Le H3 ∧ G = [ringB A n cap count, .row 9 1 i (strV (kidsUp count i))]) 11 ?_ ?_
    · refine ⟨10, by omega, _, _, [0, 1], ⟨0, by omega, rfl, rfl, .refl _, rfl⟩, ?_⟩
      exact ⟨rfl, ⟨rfl, rfl, trivial⟩, rfl, rfl, by simp [SV.ren, pv, SG.ren, SC.ren, getX], trivial⟩
    rintro k F H3 G hle2 ⟨i, hi, rfl, rfl, hle3, rfl⟩
    refine codeL.go tab ?_
    conv => whnf
    refine br.of (fun h1 => ?_) (fun h1 => ?_) <;> conv => whnf
    · simp only [decide_eq_true_eq] at h1
      refine ⟨⟨_, Tryd.func23, rfl, by kernel_rfl⟩, CallS.use (name_ (oldest count + i) (by omega) (by omega) H3) [] rfl rfl trivial ?_⟩
      rintro e H4 G' hle4 ⟨rfl, rfl, rfl⟩
      conv => whnf
      refine ⟨by decide, .inl ?_⟩
      intro g H5 hle5 hrd
      conv => whnf
      refine ⟨_, rfl, hrd, fun u hu => by rcases List.mem_singleton.1 hu with rfl; rfl, ?_⟩
      conv => whnf
      refine ⟨by show _ * 17 ≤ _; omega, ?_⟩
      conv => whnf
      rw [wrap64 (x := oldest count + i + 1) (by omega) (by omega)]
      refine ⟨10 - (i + 1), by omega, _, _, [0, 2], ⟨i + 1, by omega, rfl, rfl, hle3.trans hle5, rfl⟩, ?_⟩
      refine ⟨rfl, ⟨rfl, ?_, trivial⟩, rfl, rfl, ?_, trivial⟩
      · rw [kidsUp_succ]
        show SB.row _ 1 (i + 1) (strV (kidsUp count i) ++ [.string _]) = SB.row _ 1 (i + 1) (strV (kidsUp count i ++ [_]))
        unfold strV
        rw [List.map_append]; rfl
      · show pv _ = pv _
        congr 2; omega
    · simp only [decide_eq_false_iff_not] at h1
      have hi2 : i = (count - oldest count + 1).toNat := by omega
      subst hi2
      refine ⟨0, 9, _, rfl, rfl, ?_⟩
      show some (SB.row _ 1 _ _) = _
      have : (kidsB count).length = (count - oldest count + 1).toNat := by unfold kidsB; simp
      rw [this]; rfl
  · rintro e H' G' hle ⟨j, t, L, rfl, rfl, hj⟩
    refine ⟨j + 1, t, 1, _, _, hj, fun h0 => ?_, fun x H2 hle2 hfr => ?_⟩
    · have : kidsB count = [] := List.eq_nil_of_length_eq_zero h0
      rw [this]; rfl
    · obtain ⟨B, c, rfl, hv⟩ := VAt.of_frozen (by unfold strV; simp) hfr
      refine ⟨⟨B, _, c, ?_, hv⟩, ?_⟩
      · show SE.ret (.si (.ce (SC.at (j + 1) _ (.self (j + 1))))) = _
        simp [SC.at, pv]
      · exact ⟨_, rfl⟩
  · rintro e H' G' hle ⟨⟨B, m, c, rfl, hv⟩, L, rfl⟩
    exact ⟨_, [ringB A n cap count], [0], rfl, ⟨rfl, trivial⟩, rfl, ⟨B, m, c, rfl, hv⟩, rfl⟩
end Go.Kx.Ring
