/- A key of a block. No condition of its own. -/
import Derived.Test.YtjpjpdmceliofaaDoorMacA
namespace Go.Kx.Sha
open Go.Proofs Go.Kx
set_option maxRecDepth 20000
namespace MacB
def T : Tab := [(22, { k := TK.slice 5, agg := false, size := 1, bytes := 24, zero := [Z.sl] }), (4, { k := TK.bool, agg := false, size := 1, bytes := 1, zero := [Z.b] }), (3, { k := TK.int IntKind.i64, agg := false, size := 1, bytes := 8, zero := [Z.i IntKind.i64] }), (25, { k := TK.int IntKind.i64, agg := false, size := 1, bytes := 8, zero := [Z.i IntKind.i64] }), (5, { k := TK.int IntKind.u8, agg := false, size := 1, bytes := 1, zero := [Z.i IntKind.u8] }), (110, { k := TK.slice 22, agg := false, size := 1, bytes := 24, zero := [Z.sl] }), (111, { k := TK.ptr 146, agg := false, size := 1, bytes := 8, zero := [Z.p] }), (146, { k := TK.st [(0, 144, 8), (8, 22, 1), (9, 3, 1)], agg := true, size := 10, bytes := 64, zero := [Z.i IntKind.u32, Z.i IntKind.u32, Z.i IntKind.u32, Z.i IntKind.u32, Z.i IntKind.u32, Z.i IntKind.u32, Z.i IntKind.u32, Z.i IntKind.u32, Z.sl, Z.i IntKind.i64] }), (144, { k := TK.ar 8 99 1, agg := true, size := 8, bytes := 32, zero := [Z.i IntKind.u32, Z.i IntKind.u32, Z.i IntKind.u32, Z.i IntKind.u32, Z.i IntKind.u32, Z.i IntKind.u32, Z.i IntKind.u32, Z.i IntKind.u32] }), (99, { k := TK.int IntKind.u32, agg := false, size := 1, bytes := 4, zero := [Z.i IntKind.u32] })]
set_option maxRecDepth 100000 in
theorem tab : TabOk Tryd.prog T := tabOk_mk (ts := [22, 4, 3, 25, 5, 110, 111, 146, 144, 99]) (by kernel_rfl)
end MacB

theorem sumF (m : List UInt8) (H : Hp) (hl : m.length ≤ 1000000000) :
    CallO Tryd.prog 90 [.si (.ce (.ptr 0 0))] H [hBox 1 m, hRow m] fun e H' G' => RetB (sha m) e H' ∧ G' = [hBox 1 m, hRow m] := by
  refine CallO.sub (CallO.frz (K := fun e H' G' => (∃ A n cap, e = .ret (pv (.slice A n cap)) ∧ BytesAt H' A n (sha m)) ∧ G' = [hBox 1 m, hRow m, .dead]) (sum m H hl) ?_) ?_
  · rintro e H' G' hle ⟨rfl, rfl⟩
    refine ⟨2, 5, 1, 32, bCells (sha m), rfl, fun h0 => (nomatch h0), fun x H2 hle2 hfr => ?_⟩
    obtain ⟨A, cap, rfl, hb⟩ := BytesAt.of_frozen (bs := sha m) rfl hfr
    exact ⟨⟨A, 32, cap, rfl, hb⟩, rfl⟩
  · rintro e H' G' hle ⟨⟨A, n, cap, rfl, hb⟩, rfl⟩
    exact ⟨_, [hBox 1 m, hRow m], [0, 1], rfl, ⟨rfl, rfl, trivial⟩, rfl, ⟨A, n, cap, rfl, hb⟩, rfl⟩
def keyOf (key : List UInt8) : List UInt8 := if 64 < key.length then sha key else key
theorem keyOf_length (key : List UInt8) : (keyOf key).length ≤ 64 := by
  unfold keyOf; split
  · rw [sha_length]; decide
  · omega
def padBase (key : List UInt8) : List UInt8 := keyOf key ++ List.replicate (64 - (keyOf key).length) 0
theorem padBase_length (key : List UInt8) : (padBase key).length = 64 := by
  have := keyOf_length key
  unfold padBase; simp; omega
def padB (key : List UInt8) (x : UInt8) : List UInt8 := (padBase key).map (· ^^^ x)
def xorUp (base : List UInt8) (x : UInt8) (i : Nat) : List UInt8 := (base.take i).map (· ^^^ x) ++ base.drop i
theorem xor8 (a b : UInt8) : IntKind.u8.wrap ((BitVec.ofInt IntKind.u8.bits (a.toNat : Int) ^^^ BitVec.ofInt IntKind.u8.bits (b.toNat : Int)).toNat : Int) = ((a ^^^ b).toNat : Int) := by
  have h : ∀ c : UInt8, BitVec.ofInt IntKind.u8.bits (c.toNat : Int) = c.toBitVec := fun c => by
    show BitVec.ofInt 8 (c.toNat : Int) = c.toBitVec
    simp
  rw [h, h, wrap8]
  have := (a ^^^ b).toNat_lt
  show ((a ^^^ b).toNat : Int) % 256 = _
  omega
theorem splice_mid {α : Type} (P : List α) (c v : α) (Q : List α) {off : Nat} (ho : off = P.length) : splice (P ++ c :: Q) off [v] = P ++ v :: Q := by
  subst ho
  unfold splice
  rw [List.take_left, List.append_assoc]
  show P ++ ([v] ++ List.drop (P.length + 1) (P ++ c :: Q)) = _
  rw [List.drop_append]
  simp
theorem xorUp_mid {base : List UInt8} {x : UInt8} {i : Nat} {b : UInt8} (h : base[i]? = some b) : xorUp base x i = (base.take i).map (· ^^^ x) ++ b :: base.drop (i + 1) := by
  obtain ⟨hi, rfl⟩ := List.getElem?_eq_some_iff.1 h
  unfold xorUp
  rw [List.drop_eq_getElem_cons hi]
theorem xorUp_get {base : List UInt8} {x : UInt8} {i : Nat} {b : UInt8} (h : base[i]? = some b) {off : Nat} (ho : off = i) : (bCells (xorUp base x i))[off]? = some (.int .u8 b.toNat) := by
  subst ho
  have hi := (List.getElem?_eq_some_iff.1 h).1
  rw [xorUp_mid h]
  unfold bCells
  rw [List.getElem?_map, List.getElem?_append_right (by simp; omega)]
  simp [Nat.min_eq_left (Nat.le_of_lt hi)]
theorem xorUp_step {base : List UInt8} {x : UInt8} {i : Nat} {b : UInt8} (h : base[i]? = some b) {off : Nat} (ho : off = i) : splice (bCells (xorUp base x i)) off [.int .u8 ((b ^^^ x).toNat : Int)] = bCells (xorUp base x (i + 1)) := by
  subst ho
  have hi := (List.getElem?_eq_some_iff.1 h).1
  have e2 : xorUp base x (off + 1) = (base.take off).map (· ^^^ x) ++ (b ^^^ x) :: base.drop (off + 1) := by
    obtain ⟨hi, rfl⟩ := List.getElem?_eq_some_iff.1 h
    unfold xorUp
    rw [List.take_succ_eq_append_getElem hi, List.map_append, List.append_assoc]; rfl
  rw [xorUp_mid h, e2]
  unfold bCells
  rw [List.map_append, List.map_append, List.map_cons, List.map_cons]
  exact splice_mid _ _ _ _ (by simp [Nat.min_eq_left (Nat.le_of_lt hi)])
theorem xorUp_zero (base : List UInt8) (x : UInt8) : xorUp base x 0 = base := rfl
theorem xorUp_all {base : List UInt8} {x : UInt8} {i : Nat} (h : base.length ≤ i) : xorUp base x i = base.map (· ^^^ x) := by
  unfold xorUp; rw [List.take_of_length_le h, List.drop_of_length_le h, List.append_nil]
theorem xorUp_length (base : List UInt8) (x : UInt8) (i : Nat) : (xorUp base x i).length = base.length := by
  unfold xorUp; simp; omega
theorem zeros64 : (List.replicate (Int.toNat 64) (List.map Z.val [Z.i IntKind.u8])).flatten = bCells (List.replicate 64 0) := by kernel_rfl
theorem splice_zeros (k : List UInt8) : splice ((List.replicate (Int.toNat 64) (List.map Z.val [Z.i IntKind.u8])).flatten) 0 (bCells k) = bCells (k ++ List.replicate (64 - k.length) 0) := by
  rw [zeros64]
  unfold splice bCells
  rw [List.take_zero, List.nil_append, List.map_append, Nat.zero_add, ← List.map_drop, List.drop_replicate, List.length_map]
theorem pad0 (key : List UInt8) (x : UInt8) (A : Option Addr) (n cap : Nat) (H : Hp) (hk : BytesAt H A n key) (hn : n ≤ 1000000) :
    CallO Tryd.prog 88 [pv (.slice A n cap), pv (.int .u8 x.toNat)] H [] fun e _ G' => e = .ret (.si (.ce (.self 0))) ∧ G' = [.row 5 1 64 (bCells (padB key x))] := by
  refine CallO.of_bodyW MacB.tab Tryd.func88 rfl (nt := Tryd.f88.ntmps) rfl (by kernel_rfl) ?_
  refine W.seqS (codeX_ok MacB.tab _ ?_)
  conv => whnf
  refine WS.seqTo MacB.tab (fun F H2 G => ∃ B m c, F = [(0, pv (.slice B m c)), (1, pv (.int .u8 x.toNat))] ∧ BytesAt H2 B m (keyOf key) ∧ G = []) ?_ ?_
  · conv => whnf
    refine br.of (fun h1 => ?_) (fun h1 => ?_) <;> conv => whnf
    · simp only [gt_iff_lt, decide_eq_true_eq] at h1
      refine ⟨by decide, .inl ?_⟩
      intro g H2 hle hrd
      conv => whnf
      have hps : PartsAt H2 (some ⟨g, 0, none⟩) 1 [key] := ⟨_, rfl, hrd, .cons ⟨A, n, cap, rfl, hk.mono hle⟩ .nil⟩
      have hkl := hk.1
      refine ⟨⟨_, Tryd.func89, rfl, by kernel_rfl⟩, CallS.use (sumAll [key] _ 1 1 H2 hps (by simp; omega) (by decide)) [] rfl rfl trivial ?_⟩
      rintro e H3 G' hle2 ⟨⟨B, m, c, rfl, hb⟩, rfl⟩
      conv => whnf
      refine ⟨_, _, [], ⟨B, m, c, rfl, ?_, rfl⟩, rfl, trivial, rfl, rfl, trivial⟩
      have : [key].flatten = key := by simp
      rw [this] at hb
      unfold keyOf
      rw [if_pos (by omega)]
      exact hb
    · simp only [gt_iff_lt, decide_eq_false_iff_not] at h1
      refine ⟨_, _, [], ⟨A, n, cap, rfl, ?_, rfl⟩, rfl, trivial, rfl, rfl, trivial⟩
      unfold keyOf
      rw [if_neg (by have := hk.1; omega)]
      exact hk
  · rintro F H2 G hle ⟨B, m, c, rfl, hb, rfl⟩
    refine codeL.go MacB.tab ?_
    conv => whnf
    refine ⟨by decide, ?_⟩
    conv => whnf
    have hkl := keyOf_length key
    have hbl := padBase_length key
    obtain ⟨hm, hB, hrd⟩ := hb
    have key2 : ∀ ys, (B = none → ys = []) → (∀ a, B = some a → ys = bCells (keyOf key)) → SB.row 5 1 64 (splice ((List.replicate (Int.toNat 64) (List.map Z.val [Z.i IntKind.u8])).flatten) 0 ys) = SB.row 5 1 64 (bCells (xorUp (padBase key) x 0)) := by
      intro ys h1 h2
      rw [xorUp_zero]
      unfold padBase
      rw [← splice_zeros (keyOf key)]
      cases B with
      | none => rw [h1 rfl, hB rfl]; rfl
      | some a => rw [h2 a rfl]
    cases B with
    | none =>
      have hk0 : m = 0 := by rw [hm, hB rfl]; rfl
      subst hk0
      conv => whnf
      refine ⟨⟨by decide, by decide⟩, ?_⟩
      conv => whnf
      refine WS.loop (fun k F H3 G => ∃ i : Nat, i ≤ 64 ∧ k = 64 - i ∧ F = [(1, pv (.int .u8 x.toNat)), (5, .si (.ce (.self 0))), (18, pv (.int .i64 64)), (19, pv (.int .i64 i))] ∧ H2.Le H3 ∧ G = [.row 5 1 64 (bCells (xorUp (padBase key) x i))]) 65 ?_ ?_
      · refine ⟨64, by omega, _, _, [0], ⟨0, by omega, rfl, rfl, .refl _, rfl⟩, ?_⟩
        exact ⟨rfl, ⟨key2 [] (fun _ => rfl) (fun a e => (nomatch e)), trivial⟩, rfl, rfl, rfl, rfl, trivial⟩
      rintro k F H3 G hle2 ⟨i, hi, rfl, rfl, hle3, rfl⟩
      refine codeL.go MacB.tab ?_
      conv => whnf
      refine br.of (fun h1 => ?_) (fun h1 => ?_) <;> conv => whnf
      · simp only [decide_eq_true_eq] at h1
        have hi2 : i < 64 := by omega
        have hx : (padBase key)[i]? = some ((padBase key)[i]'(by omega)) := List.getElem?_eq_getElem (by omega)
        generalize (padBase key)[i]'(by omega) = b at hx
        refine ⟨⟨by omega, by omega⟩, ?_⟩
        conv => whnf
        refine ⟨_, xorUp_get hx (by simp), ?_⟩
        conv => whnf
        refine ⟨⟨by omega, by omega⟩, ?_⟩
        conv => whnf
        rw [xor8]
        refine ⟨by rw [bCells_length, xorUp_length, hbl]; show (i : Int).toNat * 1 + 1 ≤ 64; omega, ?_⟩
        conv => whnf
        rw [wrap64 (x := (i : Int) + 1) (by omega) (by omega)]
        refine ⟨64 - (i + 1), by omega, _, _, [0], ⟨i + 1, by omega, rfl, rfl, hle3, rfl⟩, ?_⟩
        refine ⟨rfl, ⟨?_, trivial⟩, rfl, rfl, rfl, rfl, trivial⟩
        rw [xorUp_step hx (by simp)]; rfl
      · simp only [decide_eq_false_iff_not] at h1
        have hi2 : i = 64 := by omega
        subst hi2
        rw [xorUp_all (by omega)]
        exact ⟨rfl, rfl⟩
    | some a =>
      refine ⟨bCells (keyOf key), by rw [bCells_length, hm]; exact (Nat.mul_one _).symm, hrd a rfl, bCells_one _, ?_⟩
      conv => whnf
      refine ⟨⟨by rw [hm]; exact hkl, by decide⟩, ?_⟩
      conv => whnf
      refine WS.loop (fun k F H3 G => ∃ i : Nat, i ≤ 64 ∧ k = 64 - i ∧ F = [(1, pv (.int .u8 x.toNat)), (5, .si (.ce (.self 0))), (18, pv (.int .i64 64)), (19, pv (.int .i64 i))] ∧ H2.Le H3 ∧ G = [.row 5 1 64 (bCells (xorUp (padBase key) x i))]) 65 ?_ ?_
      · refine ⟨64, by omega, _, _, [0], ⟨0, by omega, rfl, rfl, .refl _, rfl⟩, ?_⟩
        exact ⟨rfl, ⟨key2 _ (fun e => (nomatch e)) (fun a e => rfl), trivial⟩, rfl, rfl, rfl, rfl, trivial⟩
      rintro k F H3 G hle2 ⟨i, hi, rfl, rfl, hle3, rfl⟩
      refine codeL.go MacB.tab ?_
      conv => whnf
      refine br.of (fun h1 => ?_) (fun h1 => ?_) <;> conv => whnf
      · simp only [decide_eq_true_eq] at h1
        have hi2 : i < 64 := by omega
        have hx : (padBase key)[i]? = some ((padBase key)[i]'(by omega)) := List.getElem?_eq_getElem (by omega)
        generalize (padBase key)[i]'(by omega) = b at hx
        refine ⟨⟨by omega, by omega⟩, ?_⟩
        conv => whnf
        refine ⟨_, xorUp_get hx (by simp), ?_⟩
        conv => whnf
        refine ⟨⟨by omega, by omega⟩, ?_⟩
        conv => whnf
        rw [xor8]
        refine ⟨by rw [bCells_length, xorUp_length, hbl]; show (i : Int).toNat * 1 + 1 ≤ 64; omega, ?_⟩
        conv => whnf
        rw [wrap64 (x := (i : Int) + 1) (by omega) (by omega)]
        refine ⟨64 - (i + 1), by omega, _, _, [0], ⟨i + 1, by omega, rfl, rfl, hle3, rfl⟩, ?_⟩
        refine ⟨rfl, ⟨?_, trivial⟩, rfl, rfl, rfl, rfl, trivial⟩
        rw [xorUp_step hx (by simp)]; rfl
      · simp only [decide_eq_false_iff_not] at h1
        have hi2 : i = 64 := by omega
        subst hi2
        rw [xorUp_all (by omega)]
        exact ⟨rfl, rfl⟩
end Go.Kx.Sha
