/- The ring's laws walked: a secret of some byte, a ring out of a row of one's own, the document's example. No condition of its own. -/
import Derived.Test.YtjpjpdmceliofaaDoorRef14
namespace Go.Kx.Ring
open Go.Proofs Go.Kx Go.Kx.Sha Go.Kx.Lb
set_option maxRecDepth 20000
namespace Law
def T : Tab := [(22, { k := TK.slice 5, agg := false, size := 1, bytes := 24, zero := [Z.sl] }), (3, { k := TK.int IntKind.i64, agg := false, size := 1, bytes := 8, zero := [Z.i IntKind.i64] }), (9, { k := TK.string, agg := false, size := 1, bytes := 16, zero := [Z.s] }), (4, { k := TK.bool, agg := false, size := 1, bytes := 1, zero := [Z.b] }), (24, { k := TK.ptr 47, agg := false, size := 1, bytes := 8, zero := [Z.p] }), (25, { k := TK.int IntKind.i64, agg := false, size := 1, bytes := 8, zero := [Z.i IntKind.i64] }), (29, { k := TK.slice 9, agg := false, size := 1, bytes := 24, zero := [Z.sl] }), (5, { k := TK.int IntKind.u8, agg := false, size := 1, bytes := 1, zero := [Z.i IntKind.u8] }), (47, { k := TK.st [(0, 22, 1), (1, 3, 1)], agg := true, size := 2, bytes := 32, zero := [Z.sl, Z.i IntKind.i64] })]
set_option maxRecDepth 100000 in
theorem tab : TabOk Tryd.prog T := tabOk_mk (ts := [22, 3, 9, 4, 24, 25, 29, 5, 47]) (by kernel_rfl)

def mst (c : UInt8) : List UInt8 := List.replicate 32 c
def fillUp (c : UInt8) (i : Nat) : List UInt8 := List.replicate i c ++ List.replicate (32 - i) 0
theorem fill_step (c : UInt8) {i : Nat} (hi : i < 32) {off : Nat} (ho : off = i) {x : Int} (hx : x = (c.toNat : Int)) : splice (bCells (fillUp c i)) off [Value.int .u8 x] = bCells (fillUp c (i + 1)) := by
  subst ho hx
  have e1 : fillUp c off = List.replicate off c ++ 0 :: List.replicate (32 - (off + 1)) 0 := by
    unfold fillUp
    rw [show 32 - off = (32 - (off + 1)) + 1 by omega, List.replicate_succ]
  have e2 : fillUp c (off + 1) = List.replicate off c ++ c :: List.replicate (32 - (off + 1)) 0 := by
    unfold fillUp
    rw [List.replicate_succ', List.append_assoc]; rfl
  rw [e1, e2]
  unfold bCells
  rw [List.map_append, List.map_append, List.map_cons, List.map_cons]
  exact splice_mid _ _ _ _ (by simp)
theorem zeros32 : (List.replicate (Int.toNat 32) (List.map Z.val [Z.i IntKind.u8])).flatten = bCells (List.replicate 32 0) := by kernel_rfl
def MI (c : UInt8) (H : Hp) (k : Nat) (F : Fr) (H2 : Hp) (G : List SB) : Prop :=
  ∃ i : Nat, i ≤ 32 ∧ k = 32 - i ∧ F = [(0, pv (.int .u8 c.toNat)), (3, .si (.ce (.self 0))), (7, pv (.int .i64 32)), (8, pv (.int .i64 i))] ∧ H2 = H ∧ G = [.row 5 1 32 (bCells (fillUp c i))]
theorem master (c : UInt8) (H : Hp) : CallO Tryd.prog 14 [pv (.int .u8 c.toNat)] H [] fun e H' G' => e = .ret (.si (.ce (.self 0))) ∧ H' = H ∧ G' = [.row 5 1 32 (bCells (mst c))] := by
  refine CallO.of_body tab Tryd.func14 rfl (nt := Tryd.f14.ntmps) rfl (by kernel_rfl) ?_
  conv => whnf
  refine ⟨by decide, ?_⟩
  conv => whnf
  refine WS.loop (MI c H) 33 ?_ ?_
  · refine ⟨32, by omega, _, _, [0], ⟨0, by omega, rfl, rfl, rfl, rfl⟩, ?_⟩
    refine ⟨rfl, ⟨?_, trivial⟩, rfl, rfl, rfl, rfl, trivial⟩
    rw [zeros32]; rfl
  rintro k F H2 G hle ⟨i, hi, rfl, rfl, rfl, rfl⟩
  refine codeL.go tab ?_
  conv => whnf
  refine br.of (fun h1 => ?_) (fun h1 => ?_) <;> conv => whnf
  · simp only [decide_eq_true_eq] at h1
    have h1' : i < 32 := by omega
    refine ⟨⟨by omega, by omega⟩, ?_⟩
    conv => whnf
    have hfl : (bCells (fillUp c i)).length = 32 := by rw [bCells_length]; unfold fillUp; simp; omega
    refine ⟨by rw [hfl]; show (i : Int).toNat * 1 + 1 ≤ 32; omega, ?_⟩
    conv => whnf
    rw [wrap64 (x := (i : Int) + 1) (by omega) (by omega)]
    refine ⟨32 - (i + 1), by omega, _, _, [0], ⟨i + 1, by omega, rfl, rfl, rfl, rfl⟩, ?_⟩
    refine ⟨rfl, ⟨?_, trivial⟩, rfl, rfl, rfl, rfl, trivial⟩
    rw [fill_step c h1' (by show (i : Int).toNat * 1 = i; omega) rfl]
    rfl
  · simp only [decide_eq_false_iff_not] at h1
    obtain rfl : i = 32 := by omega
    exact ⟨rfl, rfl, rfl⟩
theorem clone0 (bs : List UInt8) (n : Nat) (H : Hp) (hb : n = bs.length) (h0 : 0 < n) (hn : n ≤ 1000000) :
    CallO Tryd.prog 20 [.si (.ce (.self 0))] H [.row 5 1 n (bCells bs)] fun e _ G' => e = .ret (.si (.ce (.self 1))) ∧ G' = [.row 5 1 n (bCells bs), .row 5 1 n (bCells bs)] := by
  refine CallO.of_body tab Tryd.func20 rfl (nt := Tryd.f20.ntmps) rfl (by kernel_rfl) ?_
  conv => whnf
  refine ⟨h0, ?_⟩
  conv => whnf
  refine ⟨by decide, .inl ?_⟩
  intro g H2 hle hrd
  conv => whnf
  refine ⟨bCells_one bs, fun h => absurd h (by omega), fun _ => ⟨rfl, [], rfl, hrd, by show _ * 2 ≤ _; omega, ?_⟩⟩
  conv => whnf
  exact ⟨rfl, by rw [Nat.zero_add]; rfl⟩
theorem cloneO (bs : List UInt8) (n : Nat) (H : Hp) (hb : n = bs.length) (h0 : 0 < n) (hn : n ≤ 1000000) :
    CallO Tryd.prog 20 [.si (.ce (.self 0))] H [.row 5 1 n (bCells bs)] fun e H' G' => RetB bs e H' ∧ G' = [.row 5 1 n (bCells bs)] := by
  refine CallO.sub (CallO.frz (K := fun e H' G' => (∃ A k c, e = .ret (pv (.slice A k c)) ∧ BytesAt H' A k bs) ∧ G' = [.row 5 1 n (bCells bs), .dead]) (clone0 bs n H hb h0 hn) ?_) ?_
  · rintro e H' G' hle ⟨rfl, rfl⟩
    refine ⟨1, 5, 1, n, bCells bs, rfl, fun h => absurd h (by omega), fun x H2 hle2 hfr => ?_⟩
    obtain ⟨A, cap, rfl, hb⟩ := BytesAt.of_frozen hb hfr
    exact ⟨⟨A, n, cap, rfl, hb⟩, rfl⟩
  · rintro e H' G' hle ⟨⟨A, k, c, rfl, hb⟩, rfl⟩
    exact ⟨_, [.row 5 1 n (bCells bs)], [0], rfl, ⟨rfl, trivial⟩, rfl, ⟨A, k, c, rfl, hb⟩, rfl⟩
theorem newO (bs : List UInt8) (n : Nat) (count : Int) (H : Hp) (hb : n = bs.length) (h0 : 32 ≤ n) (hn : n ≤ 1000000) (hc : 1 ≤ count) (hc2 : count ≤ 1099511627776) :
    CallO Tryd.prog 7 [.si (.ce (.self 0)), pv (.int .i64 count)] H [.row 5 1 n (bCells bs)] fun e H' G' =>
      e = .ret (.tu [.ce (.ptr 1 0), .ce (.val (.int .i64 0))]) ∧ ∃ B m c, BytesAt H' B m bs ∧ G' = [.row 5 1 n (bCells bs), ringB B m c count] := by
  refine CallO.of_body tab Tryd.func7 rfl (nt := Tryd.f7.ntmps) rfl (by kernel_rfl) ?_
  conv => whnf
  refine br.of (fun h1 => ?_) (fun h1 => ?_) <;> conv => whnf
  · simp only [decide_eq_true_eq] at h1
    omega
  · refine br.of (fun h2 => ?_) (fun h2 => ?_) <;> conv => whnf
    · simp only [decide_eq_true_eq] at h2
      omega
    · refine br.of (fun h3 => ?_) (fun h3 => ?_) <;> conv => whnf
      · simp only [gt_iff_lt, decide_eq_true_eq] at h3
        omega
      · refine ⟨⟨_, Tryd.func20, rfl, by kernel_rfl⟩, CallS.use (cloneO bs n H hb (by omega) hn) [0] rfl rfl ⟨rfl, trivial⟩ ?_⟩
        rintro e H2 G' hle ⟨⟨B, m, c, rfl, hb2⟩, rfl⟩
        conv => whnf
        exact ⟨rfl, B, m, c, hb2, rfl⟩
theorem k3 : kidB 3 = ⟨#[107, 51]⟩ := by
  unfold kidB
  rw [show (3 : Int) = ((3 : Nat) : Int) from rfl, Ref14.itoaB_one 3 (by decide)]
  rfl
theorem k10 : kidB 10 = ⟨#[107, 49, 48]⟩ := by
  unfold kidB
  rw [show (10 : Int) = ((10 : Nat) : Int) from rfl, Ref14.itoaB_snoc 10 (by decide), Ref14.itoaB_one _ (by decide)]
  rfl
theorem kids10 : (strV (kidsB 10))[0]? = some (.string ⟨#[107, 51]⟩) ∧ (strV (kidsB 10))[7]? = some (.string ⟨#[107, 49, 48]⟩) ∧ (strV (kidsB 10)).length = 8 := by
  refine ⟨?_, ?_, rfl⟩
  · show some (Value.string (kidB (3 + (0 : Nat)))) = _
    rw [show (3 : Int) + (0 : Nat) = 3 by omega, k3]
  · show some (Value.string (kidB (3 + (7 : Nat)))) = _
    rw [show (3 : Int) + (7 : Nat) = 10 by omega, k10]
def AI (B : Option Addr) (m c : Nat) (H : Hp) (k : Nat) (F : Fr) (H2 : Hp) (G : List SB) : Prop :=
  ∃ i : Nat, i ≤ 9 ∧ k = 9 - i ∧ F = [(1, .si (.ce (.ptr 0 0))), (15, pv (.int .i64 i))] ∧ H2 = H ∧ G = [ringB B m c (1 + i)]
theorem anchor (H : Hp) : CallO Tryd.prog 6 [] H [] fun e _ G' => e = .ret (pv (.bool true)) ∧ G' = [] := by
  refine CallO.of_body tab Tryd.func6 rfl (nt := Tryd.f6.ntmps) rfl (by kernel_rfl) ?_
  conv => whnf
  refine ⟨⟨_, Tryd.func14, rfl, by kernel_rfl⟩, CallS.use (master 7 H) [] rfl rfl trivial ?_⟩
  rintro e H2 G' hle ⟨rfl, rfl, rfl⟩
  conv => whnf
  refine ⟨⟨_, Tryd.func7, rfl, by kernel_rfl⟩, CallS.use (newO (mst 7) 32 1 H2 rfl (by decide) (by decide) (by decide) (by decide)) [0] rfl rfl ⟨rfl, trivial⟩ ?_⟩
  rintro e H3 G' hle2 ⟨rfl, B, m, c, hb, rfl⟩
  conv => whnf
  refine WS.loop (AI B m c H3) 10 ?_ ?_
  · refine ⟨9, by omega, _, _, [1], ⟨0, by omega, rfl, rfl, rfl, rfl⟩, ?_⟩
    exact ⟨rfl, ⟨rfl, trivial⟩, rfl, rfl, trivial⟩
  rintro k F H4 G hle3 ⟨i, hi, rfl, rfl, rfl, rfl⟩
  refine codeL.go tab ?_
  conv => whnf
  refine br.of (fun h1 => ?_) (fun h1 => ?_) <;> conv => whnf
  · simp only [decide_eq_true_eq] at h1
    refine ⟨⟨_, Tryd.func8, rfl, by kernel_rfl⟩, CallS.use (rotate B m c (1 + i) (by omega) (by omega) H4) [0] rfl rfl ⟨rfl, trivial⟩ ?_⟩
    rintro e H5 G' hle4 ⟨-, h2, rfl⟩
    obtain ⟨rfl, rfl⟩ := h2 (by omega)
    conv => whnf
    rw [wrap64 (x := (i : Int) + 1) (by omega) (by omega)]
    refine ⟨9 - (i + 1), by omega, _, _, [0], ⟨i + 1, by omega, rfl, rfl, rfl, rfl⟩, ?_⟩
    refine ⟨rfl, ⟨?_, trivial⟩, rfl, rfl, trivial⟩
    show ringB B m c (1 + (i : Int) + 1) = ringB B m c (1 + ((i + 1 : Nat) : Int))
    congr 1
  · simp only [decide_eq_false_iff_not] at h1
    obtain rfl : i = 9 := by omega
    rw [show 1 + ((9 : Nat) : Int) = 10 from rfl]
    refine ⟨⟨_, Tryd.func10, rfl, by kernel_rfl⟩, CallS.use (kids_ B m c 10 (by decide) (by decide) H4) [0] rfl rfl ⟨rfl, trivial⟩ ?_⟩
    rintro e H5 G' hle4 ⟨⟨B2, n2, c2, rfl, hv⟩, rfl⟩
    obtain ⟨e0, e7, el⟩ := kids10
    have hn2 : n2 = 8 := hv.1.trans el
    subst hn2
    conv => whnf
    refine ⟨by decide, hv.addr (by decide), ?_⟩
    conv => whnf
    refine ⟨_, hv.get e0 rfl, ?_⟩
    conv => whnf
    refine ⟨by decide, hv.addr (by decide), ?_⟩
    conv => whnf
    refine ⟨_, hv.get e7 rfl, ?_⟩
    conv => whnf
    refine ⟨⟨_, Tryd.func11, rfl, by kernel_rfl⟩, CallS.use (count_ B m c 10 H5) [0] rfl rfl ⟨rfl, trivial⟩ ?_⟩
    rintro e H6 G' hle5 ⟨rfl, rfl, rfl⟩
    conv => whnf
    exact ⟨rfl, rfl⟩
end Law
end Go.Kx.Ring
