/- The reference's SHA-256, of what is read for good, and of a row of one's own. No condition of its own. -/
import Derived.Test.YtfchdibbjaeocaaGreatDoorMS12
import Derived.Shelf.Small.Wraps
namespace Go.Kx.Sha
open Go.Proofs Go.Kx
set_option maxRecDepth 20000
namespace Ref1
theorem sumR (m : List UInt8) (A : Option Addr) (n cap : Nat) (H : Hp) (hm : BytesAt H A n m) (hl : n ≤ 1000000) :
    CallO Tryz.prog 112 [pv (.slice A n cap)] H [] fun e H' G' => RetB (sha m) e H' ∧ G' = [] := by
  refine CallO.bytes (t := 5) rfl (CallO.sub (sum0 m A n cap H hm hl) ?_)
  rintro e H' G' hle ⟨xs, rfl, rfl⟩
  exact ⟨.si (.ce (.self 0)), [.row 5 1 32 (bCells (sha m))], [1], rfl, ⟨rfl, trivial⟩, rfl, rfl, rfl⟩
theorem sumO (m : List UInt8) (n : Nat) (H : Hp) (hn : n = m.length) (hl : n ≤ 1000000) :
    CallO Tryz.prog 112 [.si (.ce (.self 0))] H [.row 5 1 n (bCells m)] fun e H' G' => RetB (sha m) e H' ∧ G' = [.dead] := by
  refine CallO.eat 0 (t := 5) (sz := 1) (n := n) (xs := bCells m) rfl (fun h0 => by have : m = [] := List.eq_nil_of_length_eq_zero (by omega); rw [this]; rfl) ?_
  intro x H2 hle hfr
  obtain ⟨A, cap, rfl, hb⟩ := BytesAt.of_frozen hn hfr
  refine (CallS.use (sumR m A n cap H2 hb hl) [] rfl rfl trivial ?_).to
  rintro e H' G' hle ⟨⟨B, k, c, rfl, hb⟩, rfl⟩
  (conv => whnf)
  exact ⟨⟨B, k, c, rfl, hb⟩, rfl⟩
end Ref1
end Go.Kx.Sha
namespace Go.Kx.Sha
open Go.Proofs Go.Kx
set_option maxRecDepth 20000
namespace MacB
def T : Tab := [(55, { k := TK.slice 5, agg := false, size := 1, bytes := 24, zero := [Z.sl] }), (164, { k := TK.slice 55, agg := false, size := 1, bytes := 24, zero := [Z.sl] }), (165, { k := TK.ptr 199, agg := false, size := 1, bytes := 8, zero := [Z.p] }), (5, { k := TK.int IntKind.u8, agg := false, size := 1, bytes := 1, zero := [Z.i IntKind.u8] }), (3, { k := TK.int IntKind.i64, agg := false, size := 1, bytes := 8, zero := [Z.i IntKind.i64] }), (4, { k := TK.bool, agg := false, size := 1, bytes := 1, zero := [Z.b] }), (35, { k := TK.int IntKind.i64, agg := false, size := 1, bytes := 8, zero := [Z.i IntKind.i64] }), (199, { k := TK.st [(0, 197, 8), (8, 55, 1), (9, 3, 1)], agg := true, size := 10, bytes := 64, zero := [Z.i IntKind.u32, Z.i IntKind.u32, Z.i IntKind.u32, Z.i IntKind.u32, Z.i IntKind.u32, Z.i IntKind.u32, Z.i IntKind.u32, Z.i IntKind.u32, Z.sl, Z.i IntKind.i64] }), (197, { k := TK.ar 8 196 1, agg := true, size := 8, bytes := 32, zero := [Z.i IntKind.u32, Z.i IntKind.u32, Z.i IntKind.u32, Z.i IntKind.u32, Z.i IntKind.u32, Z.i IntKind.u32, Z.i IntKind.u32, Z.i IntKind.u32] }), (196, { k := TK.int IntKind.u32, agg := false, size := 1, bytes := 4, zero := [Z.i IntKind.u32] })]
set_option maxRecDepth 100000 in
theorem tab : TabOk Tryz.prog T := tabOk_mk (ts := [55, 164, 165, 5, 3, 4, 35, 199, 197, 196]) (by kernel_rfl)
end MacB

theorem sumF (m : List UInt8) (H : Hp) (hl : m.length ≤ 1000000000) :
    CallO Tryz.prog 125 [.si (.ce (.ptr 0 0))] H [hBox 1 m, hRow m] fun e H' G' => RetB (sha m) e H' ∧ G' = [hBox 1 m, hRow m] := by
  refine CallO.sub (CallO.frz (K := fun e H' G' => (∃ A n cap, e = .ret (pv (.slice A n cap)) ∧ BytesAt H' A n (sha m)) ∧ G' = [hBox 1 m, hRow m, .dead]) (sum m H hl) ?_) ?_
  · rintro e H' G' hle ⟨rfl, rfl⟩
    refine ⟨2, 5, 1, 32, bCells (sha m), rfl, fun h0 => (nomatch h0), fun x H2 hle2 hfr => ?_⟩
    obtain ⟨A, cap, rfl, hb⟩ := BytesAt.of_frozen (bs := sha m) rfl hfr
    exact ⟨⟨A, 32, cap, rfl, hb⟩, rfl⟩
  · rintro e H' G' hle ⟨⟨A, n, cap, rfl, hb⟩, rfl⟩
    exact ⟨_, [hBox 1 m, hRow m], [0, 1], rfl, ⟨rfl, rfl, trivial⟩, rfl, ⟨A, n, cap, rfl, hb⟩, rfl⟩
def keyOf (key : List UInt8) : List UInt8 := if 64 < key.length then sha key else key
theorem keyOf_length (key : List UInt8) : (keyOf key).length ≤ 64 := by
  unfold keyOf; split
  · rw [sha_length]; decide
  · omega
def padBase (key : List UInt8) : List UInt8 := keyOf key ++ List.replicate (64 - (keyOf key).length) 0
theorem padBase_length (key : List UInt8) : (padBase key).length = 64 := by
  have := keyOf_length key
  unfold padBase; simp; omega
def padB (key : List UInt8) (x : UInt8) : List UInt8 := (padBase key).map (· ^^^ x)
def xorUp (base : List UInt8) (x : UInt8) (i : Nat) : List UInt8 := (base.take i).map (· ^^^ x) ++ base.drop i
theorem xor8 (a b : UInt8) : IntKind.u8.wrap ((BitVec.ofInt IntKind.u8.bits (a.toNat : Int) ^^^ BitVec.ofInt IntKind.u8.bits (b.toNat : Int)).toNat : Int) = ((a ^^^ b).toNat : Int) := by
  have h : ∀ c : UInt8, BitVec.ofInt IntKind.u8.bits (c.toNat : Int) = c.toBitVec := fun c => by
    show BitVec.ofInt 8 (c.toNat : Int) = c.toBitVec
    simp
  rw [h, h, wrap8]
  have := (a ^^^ b).toNat_lt
  show ((a ^^^ b).toNat : Int) % 256 = _
  omega
theorem splice_mid {α : Type} (P : List α) (c v : α) (Q : List α) {off : Nat} (ho : off = P.length) : splice (P ++ c :: Q) off [v] = P ++ v :: Q := by
  subst ho
  unfold splice
  rw [List.take_left, List.append_assoc]
  show P ++ ([v] ++ List.drop (P.length + 1) (P ++ c :: Q)) = _
  rw [List.drop_append]
  simp
theorem xorUp_mid {base : List UInt8} {x : UInt8} {i : Nat} {b : UInt8} (h : base[i]? = some b) : xorUp base x i = (base.take i).map (· ^^^ x) ++ b :: base.drop (i + 1) := by
  obtain ⟨hi, rfl⟩ := List.getElem?_eq_some_iff.1 h
  unfold xorUp
  rw [List.drop_eq_getElem_cons hi]
theorem xorUp_get {base : List UInt8} {x : UInt8} {i : Nat} {b : UInt8} (h : base[i]? = some b) {off : Nat} (ho : off = i) : (bCells (xorUp base x i))[off]? = some (.int .u8 b.toNat) := by
  subst ho
  have hi := (List.getElem?_eq_some_iff.1 h).1
  rw [xorUp_mid h]
  unfold bCells
  rw [List.getElem?_map, List.getElem?_append_right (by simp; omega)]
  simp [Nat.min_eq_left (Nat.le_of_lt hi)]
theorem xorUp_step {base : List UInt8} {x : UInt8} {i : Nat} {b : UInt8} (h : base[i]? = some b) {off : Nat} (ho : off = i) : splice (bCells (xorUp base x i)) off [.int .u8 ((b ^^^ x).toNat : Int)] = bCells (xorUp base x (i + 1)) := by
  subst ho
  have hi := (List.getElem?_eq_some_iff.1 h).1
  have e2 : xorUp base x (off + 1) = (base.take off).map (· ^^^ x) ++ (b ^^^ x) :: base.drop (off + 1) := by
    obtain ⟨hi, rfl⟩ := List.getElem?_eq_some_iff.1 h
    unfold xorUp
    rw [List.take_succ_eq_append_getElem hi, List.map_append, List.append_assoc]; rfl
  rw [xorUp_mid h, e2]
  unfold bCells
  rw [List.map_append, List.map_append, List.map_cons, List.map_cons]
  exact splice_mid _ _ _ _ (by simp [Nat.min_eq_left (Nat.le_of_lt hi)])
theorem xorUp_zero (base : List UInt8) (x : UInt8) : xorUp base x 0 = base := rfl
theorem xorUp_all {base : List UInt8} {x : UInt8} {i : Nat} (h : base.length ≤ i) : xorUp base x i = base.map (· ^^^ x) := by
  unfold xorUp; rw [List.take_of_length_le h, List.drop_of_length_le h, List.append_nil]
theorem xorUp_length (base : List UInt8) (x : UInt8) (i : Nat) : (xorUp base x i).length = base.length := by
  unfold xorUp; simp; omega
theorem zeros64 : (List.replicate (Int.toNat 64) (List.map Z.val [Z.i IntKind.u8])).flatten = bCells (List.replicate 64 0) := by kernel_rfl
theorem splice_zeros (k : List UInt8) : splice ((List.replicate (Int.toNat 64) (List.map Z.val [Z.i IntKind.u8])).flatten) 0 (bCells k) = bCells (k ++ List.replicate (64 - k.length) 0) := by
  rw [zeros64]
  unfold splice bCells
  rw [List.take_zero, List.nil_append, List.map_append, Nat.zero_add, ← List.map_drop, List.drop_replicate, List.length_map]
theorem pad0 (key : List UInt8) (x : UInt8) (A : Option Addr) (n cap : Nat) (H : Hp) (hk : BytesAt H A n key) (hn : n ≤ 1000000) :
    CallO Tryz.prog 123 [pv (.slice A n cap), pv (.int .u8 x.toNat)] H [] fun e _ G' => e = .ret (.si (.ce (.self 0))) ∧ G' = [.row 5 1 64 (bCells (padB key x))] := by
  refine CallO.of_bodyW MacB.tab Tryz.func123 rfl (nt := Tryz.f123.ntmps) rfl (by kernel_rfl) ?_
  refine W.seqS (codeX_ok MacB.tab _ ?_)
  (conv => whnf)
  refine WS.seqTo MacB.tab (fun F H2 G => ∃ B m c, F = [(0, pv (.slice B m c)), (1, pv (.int .u8 x.toNat))] ∧ BytesAt H2 B m (keyOf key) ∧ G = []) ?_ ?_
  · (conv => whnf)
    refine br.of (fun h1 => ?_) (fun h1 => ?_) <;> (conv => whnf)
    · simp only [gt_iff_lt, decide_eq_true_eq] at h1
      refine ⟨by decide, .inl ?_⟩
      intro g H2 hle hrd
      (conv => whnf)
      have hps : PartsAt H2 (some ⟨g, 0, none⟩) 1 [key] := ⟨_, rfl, hrd, .cons ⟨A, n, cap, rfl, hk.mono hle⟩ .nil⟩
      have hkl := hk.1
      refine ⟨⟨_, Tryz.func124, rfl, by kernel_rfl⟩, CallS.use (sumAll [key] _ 1 1 H2 hps (by simp; omega) (by decide)) [] rfl rfl trivial ?_⟩
      rintro e H3 G' hle2 ⟨⟨B, m, c, rfl, hb⟩, rfl⟩
      (conv => whnf)
      refine ⟨_, _, [], ⟨B, m, c, rfl, ?_, rfl⟩, rfl, trivial, rfl, rfl, trivial⟩
      have : [key].flatten = key := by simp
      rw [this] at hb
      unfold keyOf
      rw [if_pos (by omega)]
      exact hb
    · simp only [gt_iff_lt, decide_eq_false_iff_not] at h1
      refine ⟨_, _, [], ⟨A, n, cap, rfl, ?_, rfl⟩, rfl, trivial, rfl, rfl, trivial⟩
      unfold keyOf
      rw [if_neg (by have := hk.1; omega)]
      exact hk
  · rintro F H2 G hle ⟨B, m, c, rfl, hb, rfl⟩
    refine codeL.go MacB.tab ?_
    (conv => whnf)
    refine ⟨by decide, ?_⟩
    (conv => whnf)
    have hkl := keyOf_length key
    have hbl := padBase_length key
    obtain ⟨hm, hB, hrd⟩ := hb
    have key2 : ∀ ys, (B = none → ys = []) → (∀ a, B = some a → ys = bCells (keyOf key)) → SB.row 5 1 64 (splice ((List.replicate (Int.toNat 64) (List.map Z.val [Z.i IntKind.u8])).flatten) 0 ys) = SB.row 5 1 64 (bCells (xorUp (padBase key) x 0)) := by
      intro ys h1 h2
      rw [xorUp_zero]
      unfold padBase
      rw [← splice_zeros (keyOf key)]
      cases B with
      | none => rw [h1 rfl, hB rfl]; rfl
      | some a => rw [h2 a rfl]
    cases B with
    | none =>
      have hk0 : m = 0 := by rw [hm, hB rfl]; rfl
      subst hk0
      (conv => whnf)
      refine ⟨⟨by decide, by decide⟩, ?_⟩
      (conv => whnf)
      refine WS.loop (fun k F H3 G => ∃ i : Nat, i ≤ 64 ∧ k = 64 - i ∧ F = [(1, pv (.int .u8 x.toNat)), (5, .si (.ce (.self 0))), (18, pv (.int .i64 64)), (19, pv (.int .i64 i))] ∧ H2.Le H3 ∧ G = [.row 5 1 64 (bCells (xorUp (padBase key) x i))]) 65 ?_ ?_
      · refine ⟨64, by omega, _, _, [0], ⟨0, by omega, rfl, rfl, .refl _, rfl⟩, ?_⟩
        exact ⟨rfl, ⟨key2 [] (fun _ => rfl) (fun a e => (nomatch e)), trivial⟩, rfl, rfl, rfl, rfl, trivial⟩
      rintro k F H3 G hle2 ⟨i, hi, rfl, rfl, hle3, rfl⟩
      refine codeL.go MacB.tab ?_
      (conv => whnf)
      refine br.of (fun h1 => ?_) (fun h1 => ?_) <;> (conv => whnf)
      · simp only [decide_eq_true_eq] at h1
        have hi2 : i < 64 := by omega
        have hx : (padBase key)[i]? = some ((padBase key)[i]'(by omega)) := List.getElem?_eq_getElem (by omega)
        generalize (padBase key)[i]'(by omega) = b at hx
        refine ⟨⟨by omega, by omega⟩, ?_⟩
        (conv => whnf)
        refine ⟨_, xorUp_get hx (by simp), ?_⟩
        (conv => whnf)
        refine ⟨⟨by omega, by omega⟩, ?_⟩
        (conv => whnf)
        rw [xor8]
        refine ⟨by rw [bCells_length, xorUp_length, hbl]; show (i : Int).toNat * 1 + 1 ≤ 64; omega, ?_⟩
        (conv => whnf)
        rw [wrap64 (x := (i : Int) + 1) (by omega) (by omega)]
        refine ⟨64 - (i + 1), by omega, _, _, [0], ⟨i + 1, by omega, rfl, rfl, hle3, rfl⟩, ?_⟩
        refine ⟨rfl, ⟨?_, trivial⟩, rfl, rfl, rfl, rfl, trivial⟩
        rw [xorUp_step hx (by simp)]; rfl
      · simp only [decide_eq_false_iff_not] at h1
        have hi2 : i = 64 := by omega
        subst hi2
        rw [xorUp_all (by omega)]
        exact ⟨rfl, rfl⟩
    | some a =>
      refine ⟨bCells (keyOf key), by rw [bCells_length, hm]; exact (Nat.mul_one _).symm, hrd a rfl, bCells_one _, ?_⟩
      (conv => whnf)
      refine ⟨⟨by rw [hm]; exact hkl, by decide⟩, ?_⟩
      (conv => whnf)
      refine WS.loop (fun k F H3 G => ∃ i : Nat, i ≤ 64 ∧ k = 64 - i ∧ F = [(1, pv (.int .u8 x.toNat)), (5, .si (.ce (.self 0))), (18, pv (.int .i64 64)), (19, pv (.int .i64 i))] ∧ H2.Le H3 ∧ G = [.row 5 1 64 (bCells (xorUp (padBase key) x i))]) 65 ?_ ?_
      · refine ⟨64, by omega, _, _, [0], ⟨0, by omega, rfl, rfl, .refl _, rfl⟩, ?_⟩
        exact ⟨rfl, ⟨key2 _ (fun e => (nomatch e)) (fun a e => rfl), trivial⟩, rfl, rfl, rfl, rfl, trivial⟩
      rintro k F H3 G hle2 ⟨i, hi, rfl, rfl, hle3, rfl⟩
      refine codeL.go MacB.tab ?_
      (conv => whnf)
      refine br.of (fun h1 => ?_) (fun h1 => ?_) <;> (conv => whnf)
      · simp only [decide_eq_true_eq] at h1
        have hi2 : i < 64 := by omega
        have hx : (padBase key)[i]? = some ((padBase key)[i]'(by omega)) := List.getElem?_eq_getElem (by omega)
        generalize (padBase key)[i]'(by omega) = b at hx
        refine ⟨⟨by omega, by omega⟩, ?_⟩
        (conv => whnf)
        refine ⟨_, xorUp_get hx (by simp), ?_⟩
        (conv => whnf)
        refine ⟨⟨by omega, by omega⟩, ?_⟩
        (conv => whnf)
        rw [xor8]
        refine ⟨by rw [bCells_length, xorUp_length, hbl]; show (i : Int).toNat * 1 + 1 ≤ 64; omega, ?_⟩
        (conv => whnf)
        rw [wrap64 (x := (i : Int) + 1) (by omega) (by omega)]
        refine ⟨64 - (i + 1), by omega, _, _, [0], ⟨i + 1, by omega, rfl, rfl, hle3, rfl⟩, ?_⟩
        refine ⟨rfl, ⟨?_, trivial⟩, rfl, rfl, rfl, rfl, trivial⟩
        rw [xorUp_step hx (by simp)]; rfl
      · simp only [decide_eq_false_iff_not] at h1
        have hi2 : i = 64 := by omega
        subst hi2
        rw [xorUp_all (by omega)]
        exact ⟨rfl, rfl⟩
end Go.Kx.Sha
namespace Go.Kx.Sha
open Go.Proofs Go.Kx
set_option maxRecDepth 20000
open MacB in
theorem padF (key : List UInt8) (x : UInt8) (A : Option Addr) (n cap : Nat) (H : Hp) (hk : BytesAt H A n key) (hn : n ≤ 1000000) :
    CallO Tryz.prog 123 [pv (.slice A n cap), pv (.int .u8 x.toNat)] H [] fun e H' G' => RetB (padB key x) e H' ∧ G' = [] :=
  CallO.bytes (by unfold padB; rw [List.length_map, padBase_length]) (pad0 key x A n cap H hk hn)
theorem padB_length (key : List UInt8) (x : UInt8) : (padB key x).length = 64 := by unfold padB; rw [List.length_map, padBase_length]
def hmac (key msg : List UInt8) : List UInt8 := sha (padB key 0x5c ++ sha (padB key 0x36 ++ msg))
theorem code (key : List UInt8) (ps : List (List UInt8)) (A B : Option Addr) (n cap m c : Nat) (H : Hp) (hk : BytesAt H A n key) (hp : PartsAt H B m ps) (hn : n ≤ 1000000) (hm : m ≤ 1000000) (hl : ps.flatten.length ≤ 100000000) :
    CallO Tryz.prog 75 [pv (.slice A n cap), pv (.slice B m c)] H [] fun e H' G' => RetB (hmac key ps.flatten) e H' ∧ G' = [] := by
  refine CallO.of_body MacB.tab Tryz.func75 rfl (nt := Tryz.f75.ntmps) rfl (by kernel_rfl) ?_
  (conv => whnf)
  refine ⟨⟨_, Tryz.func121, rfl, by kernel_rfl⟩, CallS.use (new_ H) [] rfl rfl trivial ?_⟩
  rintro e H' G' hle ⟨rfl, rfl, rfl⟩
  (conv => whnf)
  refine ⟨⟨_, Tryz.func123, rfl, by kernel_rfl⟩, CallS.use (padF key 0x36 A n cap H' hk hn) [] rfl rfl trivial ?_⟩
  rintro e H2 G' hle2 ⟨⟨A2, n2, c2, rfl, hb2⟩, rfl⟩
  (conv => whnf)
  refine ⟨⟨_, Tryz.func122, rfl, by kernel_rfl⟩, CallS.use (write [] (padB key 0x36) A2 n2 c2 H2 hb2 (by rw [hb2.1, padB_length]; decide)) [0, 1] rfl rfl ⟨rfl, rfl, trivial⟩ ?_⟩
  rintro e H3 G' hle3 ⟨rfl, rfl, rfl⟩
  (conv => whnf)
  rw [List.nil_append]
  have hpl := hp.length
  have hpd := padB_length key 0x36
  refine WS.loop (fun k F H4 G => ∃ i : Nat, i ≤ m ∧ k = m - i ∧ F = [(0, pv (.slice A n cap)), (5, .si (.ce (.ptr 0 0))), (13, pv (.slice B m c)), (14, pv (.int .i64 m)), (15, pv (.int .i64 i))] ∧ H'.Le H4 ∧ G = [hBox 1 (padB key 0x36 ++ upto ps i), hRow (padB key 0x36 ++ upto ps i)]) (m + 1) ?_ ?_
  · refine ⟨m, by omega, _, _, [0, 2], ⟨0, by omega, rfl, rfl, hle2, rfl⟩, ?_⟩
    exact ⟨rfl, ⟨by show _ = hBox 2 _; rw [show upto ps 0 = [] from rfl, List.append_nil]; rfl, by rw [show upto ps 0 = [] from rfl, List.append_nil]; rfl, trivial⟩, rfl, rfl, rfl, rfl, rfl, trivial⟩
  rintro k F H4 G hle4 ⟨i, hi, rfl, rfl, hle5, rfl⟩
  refine codeL.go MacB.tab ?_
  (conv => whnf)
  refine br.of (fun h1 => ?_) (fun h1 => ?_) <;> (conv => whnf)
  · simp only [decide_eq_true_eq] at h1
    have hx : ps[i]? = some ps[i] := List.getElem?_eq_getElem (by omega)
    obtain ⟨C, q, r, hrd, hb⟩ := (hp.mono hle5).get hx rfl
    have hu := upto_succ hx
    have hul := upto_le ps (i + 1)
    rw [hu, List.length_append] at hul
    refine ⟨⟨by omega, h1⟩, hp.addr, ?_⟩
    (conv => whnf)
    refine ⟨.slice C q r, by simpa using hrd, ?_⟩
    (conv => whnf)
    refine ⟨⟨_, Tryz.func122, rfl, by kernel_rfl⟩, CallS.use (write (padB key 0x36 ++ upto ps i) ps[i] C q r H4 hb (by rw [hb.1, List.length_append, hpd]; omega)) [0, 1] rfl rfl ⟨rfl, rfl, trivial⟩ ?_⟩
    rintro e H5 G' hle6 ⟨rfl, rfl, rfl⟩
    (conv => whnf)
    rw [wrap64 (x := (i : Int) + 1) (by omega) (by omega)]
    refine ⟨m - (i + 1), by omega, _, _, [0, 2], ⟨i + 1, by omega, rfl, rfl, hle5, rfl⟩, ?_⟩
    refine ⟨rfl, ⟨?_, ?_, trivial⟩, rfl, rfl, rfl, rfl, rfl, trivial⟩
    · rw [hu, ← List.append_assoc]; rfl
    · rw [hu, ← List.append_assoc]; rfl
  · simp only [decide_eq_false_iff_not] at h1
    rw [upto_all (ps := ps) (i := i) (by omega)]
    refine ⟨⟨_, Tryz.func123, rfl, by kernel_rfl⟩, CallS.use (padF key 0x5c A n cap H4 (hk.mono hle5) hn) [] rfl rfl trivial ?_⟩
    rintro e H5 G' hle6 ⟨⟨A3, n3, c3, rfl, hb3⟩, rfl⟩
    (conv => whnf)
    refine ⟨⟨_, Tryz.func125, rfl, by kernel_rfl⟩, CallS.use (sumF (padB key 0x36 ++ ps.flatten) H5 (by rw [List.length_append, hpd]; omega)) [0, 1] rfl rfl ⟨rfl, rfl, trivial⟩ ?_⟩
    rintro e H6 G' hle7 ⟨⟨A4, n4, c4, rfl, hb4⟩, rfl⟩
    (conv => whnf)
    refine ⟨by decide, .inl ?_⟩
    intro g H7 hle8 hrd
    (conv => whnf)
    have hps : PartsAt H7 (some ⟨g, 0, none⟩) 2 [padB key 0x5c, sha (padB key 0x36 ++ ps.flatten)] := ⟨_, rfl, hrd, .cons ⟨A3, n3, c3, rfl, hb3.mono (hle7.trans hle8)⟩ (.cons ⟨A4, n4, c4, rfl, hb4.mono hle8⟩ .nil)⟩
    refine ⟨⟨_, Tryz.func124, rfl, by kernel_rfl⟩, CallS.use (sumAll _ _ 2 2 H7 hps (by simp [padB_length, sha_length]) (by decide)) [] rfl rfl trivial ?_⟩
    rintro e H8 G' hle9 ⟨⟨A5, n5, c5, rfl, hb5⟩, rfl⟩
    (conv => whnf)
    have e0 : [padB key 0x5c, sha (padB key 0x36 ++ ps.flatten)].flatten = padB key 0x5c ++ sha (padB key 0x36 ++ ps.flatten) := by simp
    rw [e0] at hb5
    exact ⟨⟨A5, n5, c5, rfl, hb5⟩, rfl⟩
end Go.Kx.Sha
namespace Go.Kx.Sha
open Go.Proofs Go.Kx
set_option maxRecDepth 20000
def hkdf (key info : List UInt8) : List UInt8 := hmac key (info ++ [1])
theorem hkdf_length (key info : List UInt8) : (hkdf key info).length = 32 := rfl
theorem one_byte (x : Int) (b : UInt8) (h : x = (b.toNat : Int)) : [Value.int .u8 x] = bCells [b] := by rw [h]; rfl
theorem expand (key info : List UInt8) (A B : Option Addr) (n cap m c : Nat) (H : Hp) (hk : BytesAt H A n key) (hi : BytesAt H B m info) (hn : n ≤ 1000000) (hm : m ≤ 1000000) :
    CallO Tryz.prog 140 [pv (.slice A n cap), pv (.slice B m c), pv (.int .i64 32)] H [] fun e _ G' => e = .ret (.tu [.ce (.self 0), .ce (.val (.int .i64 0))]) ∧ G' = [.row 5 1 32 (bCells (hkdf key info))] := by
  refine CallO.sub (K0 := fun e _ G' => e = .ret (.tu [.ce (.self 2), .ce (.val (.int .i64 0))]) ∧ ∃ X, G' = [.dead, X, .row 5 1 32 (bCells (hkdf key info))]) ?_ ?_
  · refine CallO.of_body MacB.tab Tryz.func140 rfl (nt := Tryz.f140.ntmps) rfl (by kernel_rfl) ?_
    (conv => whnf)
    refine WS.nilRow 8 5 1 rfl ?_
    (conv => whnf)
    refine WS.loop (fun k F H3 G => ∃ (j : Nat) (C : Option Addr) (q r : Nat) (bs : List UInt8), ((j = 0 ∧ bs = []) ∨ (j = 1 ∧ bs = hkdf key info)) ∧ k = 1 - j ∧ F = [(0, pv (.slice A n cap)), (1, pv (.slice B m c)), (2, pv (.int .i64 32)), (8, .si (.ce (.self 0))), (9, pv (.slice C q r)), (10, pv (.int .u8 (1 + j)))] ∧
        H.Le H3 ∧ BytesAt H3 C q bs ∧ G = [.row 5 1 (32 * j) (bCells bs)]) 2 ?_ ?_
    · refine ⟨1, by omega, _, _, [0], ⟨0, none, 0, 0, [], .inl ⟨rfl, rfl⟩, rfl, rfl, .refl _, ⟨rfl, fun _ => rfl, fun a e => (nomatch e)⟩, rfl⟩, ?_⟩
      exact ⟨rfl, ⟨rfl, trivial⟩, rfl, rfl, rfl, rfl, rfl, rfl, trivial⟩
    rintro k F H3 G hle ⟨j, C, q, r, bs, hj, rfl, rfl, hle2, hb, rfl⟩
    refine codeL.go MacB.tab ?_
    rcases hj with ⟨rfl, rfl⟩ | ⟨rfl, rfl⟩
    · (conv => whnf)
      refine ⟨by decide, .inl ?_⟩
      intro g H4 hle3 hrd
      (conv => whnf)
      refine ⟨by decide, .inl ?_⟩
      intro g2 H5 hle4 hrd2
      (conv => whnf)
      have hps : PartsAt H5 (some ⟨g2, 0, none⟩) 3 [[], info, [1]] := ⟨_, rfl, hrd2, .cons ⟨C, q, r, rfl, hb.mono (hle3.trans hle4)⟩ (.cons ⟨B, m, c, rfl, hi.mono (hle2.trans (hle3.trans hle4))⟩ (.cons ⟨_, 1, 1, rfl, BytesAt.lit rfl (hrd.mono hle4)⟩ .nil))⟩
      have hil := hi.1
      refine ⟨⟨_, Tryz.func75, rfl, by kernel_rfl⟩, CallS.use (code key [[], info, [1]] A _ n cap 3 3 H5 (hk.mono (hle2.trans (hle3.trans hle4))) hps hn (by decide) (by simp; omega)) [] rfl rfl trivial ?_⟩
      rintro e H6 G' hle5 ⟨⟨C2, q2, r2, rfl, hb2⟩, rfl⟩
      (conv => whnf)
      have e1 : hmac key [[], info, [1]].flatten = hkdf key info := by unfold hkdf; simp
      rw [e1] at hb2
      obtain ⟨hq2, hC2, hrd3⟩ := hb2
      cases C2 with
      | none => have := hC2 rfl; have h2 := hkdf_length key info; rw [this] at h2; cases h2
      | some a2 =>
        refine ⟨bCells (hkdf key info), by rw [bCells_length, hq2]; exact (Nat.mul_one _).symm, hrd3 a2 rfl, bCells_one _, ?_⟩
        (conv => whnf)
        have hq3 : q2 = 32 := hq2
        subst hq3
        refine ⟨by decide, ?_⟩
        (conv => whnf)
        refine ⟨0, by decide, _, _, [1], ⟨1, some a2, 32, r2, hkdf key info, .inr ⟨rfl, rfl⟩, rfl, rfl, hle2.trans (hle3.trans (hle4.trans hle5)), ⟨rfl, hC2, hrd3⟩, rfl⟩, ?_⟩
        exact ⟨rfl, ⟨rfl, trivial⟩, rfl, rfl, rfl, rfl, rfl, rfl, trivial⟩
    · (conv => whnf)
      refine ⟨by decide, ?_⟩
      (conv => whnf)
      have ec : (List.take ((Int.toNat 32 - Int.toNat 0) * 1) (List.drop (Int.toNat 0 * 1) (bCells (hkdf key info)))) = bCells (hkdf key info) := by
        show List.take 32 (List.drop 0 _) = _
        rw [List.drop_zero, List.take_of_length_le (by rw [bCells_length, hkdf_length]; exact Nat.le_refl _)]
      rw [ec]
      refine ⟨bCells_one _, ?_⟩
      (conv => whnf)
      refine ⟨by decide, ?_⟩
      (conv => whnf)
      exact ⟨rfl, _, rfl⟩
  · rintro e H' G' hle ⟨rfl, X, rfl⟩
    exact ⟨.tu [.ce (.self 0), .ce (.val (.int .i64 0))], [.row 5 1 32 (bCells (hkdf key info))], [2], rfl, ⟨rfl, trivial⟩, rfl, rfl, rfl⟩
end Go.Kx.Sha
namespace Go.Kx.Sha
open Go.Proofs Go.Kx
set_option maxRecDepth 20000
namespace Ref2
def T : Tab := [(55, { k := TK.slice 5, agg := false, size := 1, bytes := 24, zero := [Z.sl] }), (5, { k := TK.int IntKind.u8, agg := false, size := 1, bytes := 1, zero := [Z.i IntKind.u8] }), (3, { k := TK.int IntKind.i64, agg := false, size := 1, bytes := 8, zero := [Z.i IntKind.i64] }), (4, { k := TK.bool, agg := false, size := 1, bytes := 1, zero := [Z.b] })]
set_option maxRecDepth 100000 in
theorem tab : TabOk Tryz.prog T := tabOk_mk (ts := [55, 5, 3, 4]) (by kernel_rfl)

theorem padB_get (key : List UInt8) (x : UInt8) {i : Nat} (hi : i < 64) : (padB key x)[i]? = some (if i < (keyOf key).length then x ^^^ (keyOf key).getD i 0 else x) := by
  have hl := keyOf_length key
  unfold padB padBase
  rw [List.getElem?_map]
  by_cases h : i < (keyOf key).length
  · rw [if_pos h, List.getElem?_append_left h, List.getElem?_eq_getElem h, List.getD_eq_getElem?_getD, List.getElem?_eq_getElem h]
    simp [UInt8.xor_comm]
  · rw [if_neg h, List.getElem?_append_right (by omega), List.getElem?_replicate, if_pos (by omega)]
    simp
theorem take_snoc {l : List UInt8} {i : Nat} {b : UInt8} (h : l[i]? = some b) {m : Nat} {v : Int} (hm : m = i + 1) (hv : v = (b.toNat : Int)) (t : TypeId) : SB.row t 1 m (bCells (l.take i) ++ [Value.int .u8 v]) = SB.row t 1 (i + 1) (bCells (l.take (i + 1))) := by
  subst hm hv
  rw [take_get h]
  rw [← bCells_append]
  rfl
theorem bytes_at {H : Hp} {A : Option Addr} {n : Nat} {bs : List UInt8} (hb : BytesAt H A n bs) {i : Nat} (hi : i < n) : (∃ b o, A = some ⟨b, o, none⟩) ∧ ∀ off, off = i → RdC H A off (.int .u8 (bs.getD i 0).toNat) := by
  obtain ⟨hn, hA, hrd⟩ := hb
  cases A with
  | none => have := hA rfl; subst this; subst hn; exact absurd hi (Nat.not_lt_zero _)
  | some a =>
    obtain ⟨b, o, hab, h2⟩ := hrd a rfl
    refine ⟨⟨b, o, hab⟩, fun off ho => ⟨b, o, hab, h2 _ _ (bget (by omega) ho)⟩⟩
def PI (key : List UInt8) (x : UInt8) (B : Option Addr) (n c : Nat) (H : Hp) (k : Nat) (F : Fr) (H2 : Hp) (G : List SB) : Prop :=
  ∃ i : Nat, i ≤ 64 ∧ k = 64 - i ∧ F = [(0, pv (.slice B n c)), (1, pv (.int .u8 x.toNat)), (5, .si (.ce (.self 0))), (6, pv (.int .i64 i))] ∧ H.Le H2 ∧ G = [.row 5 1 i (bCells ((padB key x).take i))]
theorem pad (key : List UInt8) (x : UInt8) (A : Option Addr) (n cap : Nat) (H : Hp) (hk : BytesAt H A n key) (hn : n ≤ 1000000) :
    CallO Tryz.prog 113 [pv (.slice A n cap), pv (.int .u8 x.toNat)] H [] fun e _ G' => e = .ret (.si (.ce (.self 0))) ∧ G' = [.row 5 1 64 (bCells (padB key x))] := by
  refine CallO.of_bodyW tab Tryz.func113 rfl (nt := Tryz.f113.ntmps) rfl (by kernel_rfl) ?_
  refine W.seqS (codeX_ok tab _ ?_)
  (conv => whnf)
  refine WS.seqTo tab (fun F H2 G => ∃ B m c, F = [(0, pv (.slice B m c)), (1, pv (.int .u8 x.toNat))] ∧ BytesAt H2 B m (keyOf key) ∧ G = []) ?_ ?_
  · (conv => whnf)
    refine br.of (fun h1 => ?_) (fun h1 => ?_) <;> (conv => whnf)
    · simp only [gt_iff_lt, decide_eq_true_eq] at h1
      refine ⟨⟨_, Tryz.func112, rfl, by kernel_rfl⟩, CallS.use (Ref1.sumR key A n cap H hk hn) [] rfl rfl trivial ?_⟩
      rintro e H3 G' hle2 ⟨⟨B, m, c, rfl, hb⟩, rfl⟩
      (conv => whnf)
      refine ⟨_, _, [], ⟨B, m, c, rfl, ?_, rfl⟩, rfl, trivial, rfl, rfl, trivial⟩
      unfold keyOf
      rw [if_pos (by have := hk.1; omega)]
      exact hb
    · simp only [gt_iff_lt, decide_eq_false_iff_not] at h1
      refine ⟨_, _, [], ⟨A, n, cap, rfl, ?_, rfl⟩, rfl, trivial, rfl, rfl, trivial⟩
      unfold keyOf
      rw [if_neg (by have := hk.1; omega)]
      exact hk
  · rintro F H2 G hle ⟨B, m, c, rfl, hb, rfl⟩
    refine codeL.go tab ?_
    (conv => whnf)
    have hkl := keyOf_length key
    refine WS.nilRow 5 5 1 rfl ?_
    (conv => whnf)
    refine WS.loop (PI key x B m c H2) 65 ?_ ?_
    · refine ⟨64, by omega, _, _, [0], ⟨0, by omega, rfl, rfl, .refl _, rfl⟩, ?_⟩
      exact ⟨rfl, ⟨rfl, trivial⟩, rfl, rfl, rfl, rfl, trivial⟩
    rintro k F H3 G hle2 ⟨i, hi, rfl, rfl, hle3, rfl⟩
    refine codeL.go tab ?_
    (conv => whnf)
    refine br.of (fun h1 => ?_) (fun h1 => ?_) <;> (conv => whnf)
    · simp only [decide_eq_true_eq] at h1
      have hx := padB_get key x (i := i) (by omega)
      have hm := hb.1
      refine br.of (fun h2 => ?_) (fun h2 => ?_) <;> (conv => whnf)
      · simp only [decide_eq_true_eq] at h2
        rw [if_pos (by omega)] at hx
        obtain ⟨hB, hrd⟩ := bytes_at (hb.mono hle3) (i := i) (by omega)
        refine ⟨⟨by omega, h2⟩, hB, ?_⟩
        (conv => whnf)
        refine ⟨_, hrd _ (by simp), ?_⟩
        (conv => whnf)
        rw [xor8]
        refine ⟨by decide, .inl ?_⟩
        intro g H4 hle4 hrd
        (conv => whnf)
        refine ⟨_, rfl, hrd, one_int _ _, ?_⟩
        (conv => whnf)
        refine ⟨by show _ * 2 ≤ _; omega, ?_⟩
        (conv => whnf)
        rw [wrap64 (x := (i : Int) + 1) (by omega) (by omega)]
        refine ⟨64 - (i + 1), by omega, _, _, [1], ⟨i + 1, by omega, rfl, rfl, hle3.trans hle4, rfl⟩, ?_⟩
        refine ⟨rfl, ⟨take_snoc hx rfl rfl _, trivial⟩, rfl, rfl, rfl, rfl, trivial⟩
      · simp only [decide_eq_false_iff_not] at h2
        rw [if_neg (by omega)] at hx
        refine ⟨by decide, .inl ?_⟩
        intro g H4 hle4 hrd
        (conv => whnf)
        refine ⟨_, rfl, hrd, one_int _ _, ?_⟩
        (conv => whnf)
        refine ⟨by show _ * 2 ≤ _; omega, ?_⟩
        (conv => whnf)
        rw [wrap64 (x := (i : Int) + 1) (by omega) (by omega)]
        refine ⟨64 - (i + 1), by omega, _, _, [1], ⟨i + 1, by omega, rfl, rfl, hle3.trans hle4, rfl⟩, ?_⟩
        refine ⟨rfl, ⟨take_snoc hx rfl rfl _, trivial⟩, rfl, rfl, rfl, rfl, trivial⟩
    · simp only [decide_eq_false_iff_not] at h1
      obtain rfl : i = 64 := by omega
      refine ⟨rfl, ?_⟩
      rw [List.take_of_length_le (by rw [padB_length]; exact Nat.le_refl _)]
theorem code (key msg : List UInt8) (A B : Option Addr) (n cap m c : Nat) (H : Hp) (hk : BytesAt H A n key) (hp : BytesAt H B m msg) (hn : n ≤ 900000) (hm : m ≤ 900000) :
    CallO Tryz.prog 69 [pv (.slice A n cap), pv (.slice B m c)] H [] fun e H' G' => RetB (hmac key msg) e H' ∧ G' = [] := by
  refine CallO.of_body tab Tryz.func69 rfl (nt := Tryz.f69.ntmps) rfl (by kernel_rfl) ?_
  (conv => whnf)
  refine ⟨⟨_, Tryz.func113, rfl, by kernel_rfl⟩, CallS.use (pad key 0x36 A n cap H hk (by omega)) [] rfl rfl trivial ?_⟩
  rintro e H2 G' hle ⟨rfl, rfl⟩
  (conv => whnf)
  have hpl : ∀ x, (padB key x).length = 64 := padB_length key
  have hmm := hp.1
  cases B with
  | none =>
    have hmsg := hp.2.1 rfl
    subst hmsg
    (conv => whnf)
    have hm0 : m = 0 := hmm
    subst hm0
    (conv => whnf)
    refine ⟨by decide, ?_⟩
    (conv => whnf)
    refine ⟨⟨_, Tryz.func112, rfl, by kernel_rfl⟩, CallS.use (Ref1.sumO (padB key 0x36 ++ []) (64 + 0) H2 (by rw [List.length_append, hpl]; rfl) (by omega)) [1] rfl rfl ⟨by rw [List.append_nil, List.append_nil]; rfl, trivial⟩ ?_⟩
    rintro e H3 G' hle2 ⟨⟨A3, n3, c3, rfl, hb3⟩, rfl⟩
    (conv => whnf)
    have h3l : n3 = 32 := hb3.1
    subst h3l
    refine ⟨⟨_, Tryz.func113, rfl, by kernel_rfl⟩, CallS.use (pad key 0x5c A n cap H3 (hk.mono (hle.trans hle2)) (by omega)) [] rfl rfl trivial ?_⟩
    rintro e H4 G' hle3 ⟨rfl, rfl⟩
    (conv => whnf)
    obtain ⟨hq, hC, hrd3⟩ := hb3.mono hle3
    cases A3 with
    | none => have := hC rfl; have h2 := sha_length (padB key 0x36 ++ []); rw [this] at h2; cases h2
    | some a3 =>
      (conv => whnf)
      refine ⟨bCells (sha (padB key 0x36 ++ [])), rfl, hrd3 a3 rfl, bCells_one _, ?_⟩
      (conv => whnf)
      refine ⟨by decide, ?_⟩
      (conv => whnf)
      refine ⟨⟨_, Tryz.func112, rfl, by kernel_rfl⟩, CallS.use (Ref1.sumO (padB key 0x5c ++ sha (padB key 0x36 ++ [])) 96 H4 (by rw [List.length_append, hpl, sha_length]) (by decide)) [3] rfl rfl ⟨by rw [bCells_append]; rfl, trivial⟩ ?_⟩
      rintro e H5 G' hle4 ⟨⟨A5, n5, c5, rfl, hb5⟩, rfl⟩
      (conv => whnf)
      exact ⟨⟨A5, n5, c5, rfl, hb5⟩, rfl⟩
  | some b =>
    (conv => whnf)
    refine ⟨bCells msg, by rw [bCells_length, ← hmm]; exact (Nat.mul_one _).symm, (hp.mono hle).2.2 b rfl, bCells_one _, ?_⟩
    (conv => whnf)
    refine ⟨by show (64 + m) * 2 ≤ _; omega, ?_⟩
    (conv => whnf)
    refine ⟨⟨_, Tryz.func112, rfl, by kernel_rfl⟩, CallS.use (Ref1.sumO (padB key 0x36 ++ msg) (64 + m) H2 (by rw [List.length_append, hpl, hmm]) (by omega)) [1] rfl rfl ⟨by rw [bCells_append]; rfl, trivial⟩ ?_⟩
    rintro e H3 G' hle2 ⟨⟨A3, n3, c3, rfl, hb3⟩, rfl⟩
    (conv => whnf)
    have h3l : n3 = 32 := hb3.1
    subst h3l
    refine ⟨⟨_, Tryz.func113, rfl, by kernel_rfl⟩, CallS.use (pad key 0x5c A n cap H3 (hk.mono (hle.trans hle2)) (by omega)) [] rfl rfl trivial ?_⟩
    rintro e H4 G' hle3 ⟨rfl, rfl⟩
    (conv => whnf)
    obtain ⟨hq, hC, hrd3⟩ := hb3.mono hle3
    cases A3 with
    | none => have := hC rfl; have h2 := sha_length (padB key 0x36 ++ msg); rw [this] at h2; cases h2
    | some a3 =>
      (conv => whnf)
      refine ⟨bCells (sha (padB key 0x36 ++ msg)), rfl, hrd3 a3 rfl, bCells_one _, ?_⟩
      (conv => whnf)
      refine ⟨by decide, ?_⟩
      (conv => whnf)
      refine ⟨⟨_, Tryz.func112, rfl, by kernel_rfl⟩, CallS.use (Ref1.sumO (padB key 0x5c ++ sha (padB key 0x36 ++ msg)) 96 H4 (by rw [List.length_append, hpl, sha_length]) (by decide)) [3] rfl rfl ⟨by rw [bCells_append]; rfl, trivial⟩ ?_⟩
      rintro e H5 G' hle4 ⟨⟨A5, n5, c5, rfl, hb5⟩, rfl⟩
      (conv => whnf)
      exact ⟨⟨A5, n5, c5, rfl, hb5⟩, rfl⟩
end Ref2
end Go.Kx.Sha
namespace Go.Kx.Sha
open Go.Proofs Go.Kx
set_option maxRecDepth 20000
namespace Ref2

theorem codeO (key msg : List UInt8) (A : Option Addr) (n cap m : Nat) (H : Hp) (hk : BytesAt H A n key) (hmm : m = msg.length) (hn : n ≤ 900000) (hm : m ≤ 900000) :
    CallO Tryz.prog 69 [pv (.slice A n cap), .si (.ce (.self 0))] H [.row 5 1 m (bCells msg)] fun e H' G' => RetB (hmac key msg) e H' ∧ G' = [.dead] := by
  refine CallO.eat 0 (t := 5) (sz := 1) (n := m) (xs := bCells msg) rfl (fun h0 => by have : msg = [] := List.eq_nil_of_length_eq_zero (by omega); rw [this]; rfl) ?_
  intro x H2 hle hfr
  obtain ⟨B, c, rfl, hb⟩ := BytesAt.of_frozen hmm hfr
  refine (CallS.use (code key msg A B n cap m c H2 (hk.mono hle) hb hn hm) [] rfl rfl trivial ?_).to
  rintro e H' G' hle ⟨⟨B, k, c, rfl, hb⟩, rfl⟩
  (conv => whnf)
  exact ⟨⟨B, k, c, rfl, hb⟩, rfl⟩
theorem expand (key info : List UInt8) (A B : Option Addr) (n cap m c : Nat) (H : Hp) (hk : BytesAt H A n key) (hi : BytesAt H B m info) (hn : n ≤ 100000) (hm : m ≤ 100000) :
    CallO Tryz.prog 87 [pv (.slice A n cap), pv (.slice B m c), pv (.int .i64 32)] H [] fun e _ G' => e = .ret (.si (.ce (.self 0))) ∧ G' = [.row 5 1 32 (bCells (hkdf key info))] := by
  refine CallO.sub (K0 := fun e _ G' => e = .ret (.si (.ce (.self 1))) ∧ G' = [.dead, .row 5 1 32 (bCells (hkdf key info))]) ?_ ?_
  · refine CallO.of_body tab Tryz.func87 rfl (nt := Tryz.f87.ntmps) rfl (by kernel_rfl) ?_
    (conv => whnf)
    refine WS.nilRow 7 5 1 rfl ?_
    (conv => whnf)
    refine WS.loop (fun k F H3 G => ∃ (j : Nat) (C : Option Addr) (q r : Nat) (bs : List UInt8), ((j = 0 ∧ bs = [] ∧ C = none ∧ q = 0 ∧ r = 0) ∨ (j = 1 ∧ bs = hkdf key info)) ∧ k = 1 - j ∧ F = [(0, pv (.slice A n cap)), (1, pv (.slice B m c)), (2, pv (.int .i64 32)), (7, .si (.ce (.self 0))), (8, pv (.slice C q r)), (9, pv (.int .i64 (1 + j)))] ∧
        H.Le H3 ∧ BytesAt H3 C q bs ∧ G = [.row 5 1 (32 * j) (bCells bs)]) 2 ?_ ?_
    · refine ⟨1, by omega, _, _, [0], ⟨0, none, 0, 0, [], .inl ⟨rfl, rfl, rfl, rfl, rfl⟩, rfl, rfl, .refl _, ⟨rfl, fun _ => rfl, fun a e => (nomatch e)⟩, rfl⟩, ?_⟩
      exact ⟨rfl, ⟨rfl, trivial⟩, rfl, rfl, rfl, rfl, rfl, rfl, trivial⟩
    rintro k F H3 G hle ⟨j, C, q, r, bs, hj, rfl, rfl, hle2, hb, rfl⟩
    refine codeL.go tab ?_
    rcases hj with ⟨rfl, rfl, rfl, rfl, rfl⟩ | ⟨rfl, rfl⟩
    · (conv => whnf)
      refine ⟨by decide, .inr ⟨rfl, ?_⟩⟩
      (conv => whnf)
      refine ⟨by decide, ?_⟩
      (conv => whnf)
      have him := hi.1
      cases B with
      | none =>
        have hmsg := hi.2.1 rfl
        subst hmsg
        have hm0 : m = 0 := him
        subst hm0
        (conv => whnf)
        refine ⟨by decide, ?_⟩
        (conv => whnf)
        refine ⟨by decide, .inl ?_⟩
        intro g H4 hle3 hrd
        (conv => whnf)
        refine ⟨_, rfl, hrd, one_int _ _, ?_⟩
        (conv => whnf)
        refine ⟨by show (0 + 0 + 0 + 1) * 2 ≤ _; omega, ?_⟩
        (conv => whnf)
        refine ⟨⟨_, Tryz.func69, rfl, by kernel_rfl⟩, CallS.use (codeO key ([] ++ [1]) A n cap (0 + 0 + 0 + 1) H4 (hk.mono (hle2.trans hle3)) (by first | (simp; done) | (simp; omega)) (by omega) (by omega)) [4] rfl rfl ⟨?_, trivial⟩ ?_⟩
        · exact rfl
        rintro e H5 G' hle4 ⟨⟨A3, n3, c3, rfl, hb3⟩, rfl⟩
        (conv => whnf)
        have e1 : hmac key ([] ++ [1]) = hkdf key [] := rfl
        rw [e1] at hb3
        obtain ⟨hq3, hC3, hrd3⟩ := hb3
        cases A3 with
        | none => have := hC3 rfl; have h2 := hkdf_length key []; rw [this] at h2; cases h2
        | some a3 =>
          (conv => whnf)
          refine ⟨bCells (hkdf key []), by rw [bCells_length, hq3]; exact (Nat.mul_one _).symm, hrd3 a3 rfl, bCells_one _, ?_⟩
          (conv => whnf)
          have hq4 : n3 = 32 := hq3
          subst hq4
          refine ⟨by decide, ?_⟩
          (conv => whnf)
          refine ⟨0, by decide, _, _, [5], ⟨1, some a3, 32, c3, hkdf key [], .inr ⟨rfl, rfl⟩, rfl, rfl, hle2.trans (hle3.trans hle4), ⟨rfl, hC3, hrd3⟩, rfl⟩, ?_⟩
          exact ⟨rfl, ⟨rfl, trivial⟩, rfl, rfl, rfl, rfl, rfl, rfl, trivial⟩
      | some b =>
        (conv => whnf)
        refine ⟨bCells info, by rw [bCells_length, ← him]; exact (Nat.mul_one _).symm, (hi.mono hle2).2.2 b rfl, bCells_one _, ?_⟩
        (conv => whnf)
        refine ⟨by show (0 + 0 + m) * 2 ≤ _; omega, ?_⟩
        (conv => whnf)
        refine ⟨by decide, .inl ?_⟩
        intro g H4 hle3 hrd
        (conv => whnf)
        refine ⟨_, rfl, hrd, one_int _ _, ?_⟩
        (conv => whnf)
        refine ⟨by show (0 + 0 + m + 1) * 2 ≤ _; omega, ?_⟩
        (conv => whnf)
        refine ⟨⟨_, Tryz.func69, rfl, by kernel_rfl⟩, CallS.use (codeO key (info ++ [1]) A n cap (0 + 0 + m + 1) H4 (hk.mono (hle2.trans hle3)) (by first | (simp; done) | (simp; omega)) (by omega) (by omega)) [4] rfl rfl ⟨?_, trivial⟩ ?_⟩
        · show SB.row 5 1 (0 + 0 + m + 1) ([] ++ [] ++ bCells info ++ [Value.int .u8 1]) = SB.row 5 1 (0 + 0 + m + 1) (bCells (info ++ [1]))
          rw [List.nil_append, List.nil_append, ← bCells_append]
          rfl
        rintro e H5 G' hle4 ⟨⟨A3, n3, c3, rfl, hb3⟩, rfl⟩
        (conv => whnf)
        have e1 : hmac key (info ++ [1]) = hkdf key info := rfl
        rw [e1] at hb3
        obtain ⟨hq3, hC3, hrd3⟩ := hb3
        cases A3 with
        | none => have := hC3 rfl; have h2 := hkdf_length key info; rw [this] at h2; cases h2
        | some a3 =>
          (conv => whnf)
          refine ⟨bCells (hkdf key info), by rw [bCells_length, hq3]; exact (Nat.mul_one _).symm, hrd3 a3 rfl, bCells_one _, ?_⟩
          (conv => whnf)
          have hq4 : n3 = 32 := hq3
          subst hq4
          refine ⟨by decide, ?_⟩
          (conv => whnf)
          refine ⟨0, by decide, _, _, [5], ⟨1, some a3, 32, c3, hkdf key info, .inr ⟨rfl, rfl⟩, rfl, rfl, hle2.trans (hle3.trans hle4), ⟨rfl, hC3, hrd3⟩, rfl⟩, ?_⟩
          exact ⟨rfl, ⟨rfl, trivial⟩, rfl, rfl, rfl, rfl, rfl, rfl, trivial⟩
    · (conv => whnf)
      refine ⟨by decide, ?_⟩
      (conv => whnf)
      have ec : (List.take ((Int.toNat 32 - Int.toNat 0) * 1) (List.drop (Int.toNat 0 * 1) (bCells (hkdf key info)))) = bCells (hkdf key info) := by
        show List.take 32 (List.drop 0 _) = _
        rw [List.drop_zero, List.take_of_length_le (by rw [bCells_length, hkdf_length]; exact Nat.le_refl _)]
      exact ⟨rfl, by rw [ec]; rfl⟩
  · rintro e H' G' hle ⟨rfl, rfl⟩
    exact ⟨.si (.ce (.self 0)), [.row 5 1 32 (bCells (hkdf key info))], [1], rfl, ⟨rfl, trivial⟩, rfl, rfl, rfl⟩
end Ref2
end Go.Kx.Sha
namespace Go.Kx.Ring
open Go.Proofs Go.Kx Go.Kx.Sha Go.Kx.Lb
set_option maxRecDepth 20000
def T : Tab := [(55, { k := TK.slice 5, agg := false, size := 1, bytes := 24, zero := [Z.sl] }), (3, { k := TK.int IntKind.i64, agg := false, size := 1, bytes := 8, zero := [Z.i IntKind.i64] }), (74, { k := TK.ptr 125, agg := false, size := 1, bytes := 8, zero := [Z.p] }), (35, { k := TK.int IntKind.i64, agg := false, size := 1, bytes := 8, zero := [Z.i IntKind.i64] }), (4, { k := TK.bool, agg := false, size := 1, bytes := 1, zero := [Z.b] }), (125, { k := TK.st [(0, 55, 1), (1, 3, 1)], agg := true, size := 2, bytes := 32, zero := [Z.sl, Z.i IntKind.i64] }), (5, { k := TK.int IntKind.u8, agg := false, size := 1, bytes := 1, zero := [Z.i IntKind.u8] }), (69, { k := TK.slice 9, agg := false, size := 1, bytes := 24, zero := [Z.sl] }), (9, { k := TK.string, agg := false, size := 1, bytes := 16, zero := [Z.s] }), (138, { k := TK.ifc, agg := false, size := 1, bytes := 16, zero := [Z.ifc] })]
set_option maxRecDepth 100000 in
theorem tab : TabOk Tryz.prog T := tabOk_mk (ts := [55, 3, 74, 35, 4, 125, 5, 69, 9, 138]) (by kernel_rfl)
theorem mixed : Tryz.prog.follows .mixedOrders = true := by kernel_rfl

def VAt (H : Hp) (A : Option Addr) (n : Nat) (vs : List Value) : Prop := n = vs.length ∧ (A = none → vs = []) ∧ ∀ a, A = some a → RdN H (some a) 0 vs
theorem VAt.mono {H H' : Hp} (h : H.Le H') {A : Option Addr} {n : Nat} {vs : List Value} (hb : VAt H A n vs) : VAt H' A n vs := ⟨hb.1, hb.2.1, fun a e => (hb.2.2 a e).mono h⟩
theorem VAt.of_frozen {H : Hp} {x : Value} {n : Nat} {vs : List Value} (hn : n = vs.length) (h : Frozen H x n vs) : ∃ A cap, x = .slice A n cap ∧ VAt H A n vs := by
  rcases h with ⟨rfl, h1, h2⟩ | ⟨g, o, cap, rfl, _, h2⟩
  · subst h1
    exact ⟨none, 0, rfl, hn, fun _ => h2, fun a e => (nomatch e)⟩
  · exact ⟨_, cap, rfl, hn, fun e => (nomatch e), fun a e => by injection e with e; subst e; exact h2⟩
theorem VAt.get {H : Hp} {A : Option Addr} {n : Nat} {vs : List Value} (h : VAt H A n vs) {i : Nat} {v : Value} (hi : vs[i]? = some v) {off : Nat} (ho : off = i) : RdC H A off v := by
  subst ho
  obtain ⟨h1, h2, h3⟩ := h
  cases A with
  | none => rw [h2 rfl] at hi; simp at hi
  | some a =>
    obtain ⟨b, o, e1, e2⟩ := h3 a rfl
    exact ⟨b, o, e1, by have := e2 _ _ hi; simpa using this⟩
theorem VAt.addr {H : Hp} {A : Option Addr} {n : Nat} {vs : List Value} (h : VAt H A n vs) (h0 : 0 < n) : ∃ b o, A = some ⟨b, o, none⟩ := by
  obtain ⟨h1, h2, h3⟩ := h
  cases A with
  | none => rw [h2 rfl] at h1; simp at h1; omega
  | some a =>
    obtain ⟨b, o, e1, _⟩ := h3 a rfl
    exact ⟨b, o, e1⟩

theorem clone (bs : List UInt8) (A : Option Addr) (n cap : Nat) (H : Hp) (hb : BytesAt H A n bs) (h0 : 0 < n) (hn : n ≤ 1000000) :
    CallO Tryz.prog 82 [pv (.slice A n cap)] H [] fun e H' G' => RetB bs e H' ∧ G' = [] := by
  refine CallO.bytes (t := 5) hb.1 ?_
  refine CallO.of_body tab Tryz.func82 rfl (nt := Tryz.f82.ntmps) rfl (by kernel_rfl) ?_
  (conv => whnf)
  obtain ⟨h1, h2, h3⟩ := hb
  cases A with
  | none => rw [h2 rfl] at h1; simp at h1; omega
  | some a =>
    (conv => whnf)
    refine ⟨by decide, .inl ?_⟩
    intro g H2 hle hrd
    (conv => whnf)
    refine ⟨bCells bs, by rw [bCells_length, h1]; exact (Nat.mul_one _).symm, (h3 a rfl).mono hle, bCells_one bs, fun h => absurd h (by omega), fun _ => ⟨rfl, [], rfl, hrd, by show _ * 2 ≤ _; omega, ?_⟩⟩
    (conv => whnf)
    exact ⟨rfl, by rw [Nat.zero_add]; rfl⟩
def ringB (A : Option Addr) (n cap : Nat) (count : Int) : SB := .box 125 [.val (.slice A n cap), .val (.int .i64 count)]
theorem new_ (bs : List UInt8) (A : Option Addr) (n cap : Nat) (count : Int) (H : Hp) (hb : BytesAt H A n bs) (hn : n ≤ 1000000) :
    CallO Tryz.prog 36 [pv (.slice A n cap), pv (.int .i64 count)] H [] fun e H' G' =>
      (n < 32 → e = .ret (.tu [.ce (.val (.pointer none)), .ce (.val (.int .i64 41))]) ∧ G' = []) ∧ (¬ n < 32 → ¬ (1 ≤ count ∧ count ≤ 1099511627776) → e = .ret (.tu [.ce (.val (.pointer none)), .ce (.val (.int .i64 12))]) ∧ G' = []) ∧
      (¬ n < 32 → (1 ≤ count ∧ count ≤ 1099511627776) → e = .ret (.tu [.ce (.ptr 0 0), .ce (.val (.int .i64 0))]) ∧ ∃ B m c, BytesAt H' B m bs ∧ G' = [ringB B m c count]) := by
  refine CallO.of_body tab Tryz.func36 rfl (nt := Tryz.f36.ntmps) rfl (by kernel_rfl) ?_
  (conv => whnf)
  refine br.of (fun h1 => ?_) (fun h1 => ?_) <;> (conv => whnf)
  · simp only [decide_eq_true_eq] at h1
    exact ⟨fun _ => ⟨rfl, rfl⟩, fun h => absurd (by omega) h, fun h => absurd (by omega) h⟩
  · simp only [decide_eq_false_iff_not] at h1
    refine br.of (fun h2 => ?_) (fun h2 => ?_) <;> (conv => whnf)
    · simp only [decide_eq_true_eq] at h2
      exact ⟨fun h => absurd h (by omega), fun _ _ => ⟨rfl, rfl⟩, fun _ h => absurd h (by omega)⟩
    · simp only [decide_eq_false_iff_not] at h2
      refine br.of (fun h3 => ?_) (fun h3 => ?_) <;> (conv => whnf)
      · simp only [gt_iff_lt, decide_eq_true_eq] at h3
        exact ⟨fun h => absurd h (by omega), fun _ _ => ⟨rfl, rfl⟩, fun _ h => absurd h (by omega)⟩
      · simp only [gt_iff_lt, decide_eq_false_iff_not] at h3
        refine ⟨⟨_, Tryz.func82, rfl, by kernel_rfl⟩, CallS.use (clone bs A n cap H hb (by omega) hn) [] rfl rfl trivial ?_⟩
        rintro e H2 G' hle ⟨⟨B, m, c, rfl, hb2⟩, rfl⟩
        (conv => whnf)
        exact ⟨fun h => absurd h (by omega), fun _ h => absurd ⟨by omega, by omega⟩ h, fun _ _ => ⟨rfl, B, m, c, hb2, rfl⟩⟩
theorem count_ (A : Option Addr) (n cap : Nat) (count : Int) (H : Hp) : CallO Tryz.prog 81 [.si (.ce (.ptr 0 0))] H [ringB A n cap count] fun e H' G' => e = .ret (pv (.int .i64 count)) ∧ H' = H ∧ G' = [ringB A n cap count] := by
  refine CallO.of_body tab Tryz.func81 rfl (nt := Tryz.f81.ntmps) rfl (by kernel_rfl) ?_
  (conv => whnf)
  exact ⟨rfl, rfl, rfl⟩
theorem rotate (A : Option Addr) (n cap : Nat) (count : Int) (hc : 1 ≤ count) (hc2 : count ≤ 1099511627776) (H : Hp) : CallO Tryz.prog 44 [.si (.ce (.ptr 0 0))] H [ringB A n cap count] fun e H' G' =>
    (count = 1099511627776 → e = .ret (pv (.int .i64 14)) ∧ G' = [ringB A n cap count]) ∧ (count ≠ 1099511627776 → e = .ret (pv (.int .i64 0)) ∧ G' = [ringB A n cap (count + 1)]) ∧ H' = H := by
  refine CallO.of_body tab Tryz.func44 rfl (nt := Tryz.f44.ntmps) rfl (by kernel_rfl) ?_
  (conv => whnf)
  refine br.of (fun h1 => ?_) (fun h1 => ?_) <;> (conv => whnf)
  · simp only [beq_iff_eq] at h1
    exact ⟨fun _ => ⟨rfl, rfl⟩, fun h => absurd h1 h, rfl⟩
  · simp only [beq_eq_false_iff_ne, ne_eq] at h1
    rw [wrap64 (by omega) (by omega)]
    exact ⟨fun h => absurd h h1, fun _ => ⟨rfl, rfl⟩, rfl⟩
def oldest (count : Int) : Int := maxB 1 (count - 8 + 1)
theorem oldest_ (A : Option Addr) (n cap : Nat) (count : Int) (hc : 1 ≤ count) (hc2 : count ≤ 1099511627776) (H : Hp) : CallO Tryz.prog 132 [.si (.ce (.ptr 0 0))] H [ringB A n cap count] fun e H' G' => e = .ret (pv (.int .i64 (oldest count))) ∧ H' = H ∧ G' = [ringB A n cap count] := by
  refine CallO.of_body tab Tryz.func132 rfl (nt := Tryz.f132.ntmps) rfl (by kernel_rfl) ?_
  (conv => whnf)
  refine ⟨?_, rfl, rfl⟩
  rw [wrap64 (x := count - 8) (by omega) (by omega), wrap64 (x := count - 8 + 1) (by omega) (by omega)]; rfl
def kidB (n : Int) : ByteArray := ⟨#[107]⟩ ++ itoaB n
theorem nDigits_le : ∀ k u, u < 10 ^ (k + 1) → Lib.nDigits u ≤ k + 1
  | 0, u, hu => by rw [Lib.nDigits_small (by omega)]; omega
  | k + 1, u, hu => by
    by_cases h : u < 10
    · rw [Lib.nDigits_small h]; omega
    · rw [Lib.nDigits_big h]
      have := nDigits_le k (u / 10) (by rw [Nat.pow_succ] at hu; omega)
      omega
theorem itoa_size (n : Int) (h : -9223372036854775808 ≤ n) (h2 : n ≤ 9223372036854775807) : (itoaB n).size ≤ 20 := by
  show (Lib.itoa n).toArray.size ≤ 20
  unfold Lib.itoa
  rw [List.size_toArray]
  split
  · have := nDigits_le 18 n.natAbs (by omega)
    rw [List.length_cons, Lib.decDigits_length]; omega
  · have := nDigits_le 18 n.toNat (by omega)
    rw [Lib.decDigits_length]; omega
theorem name_ (n : Int) (h0 : -9223372036854775808 ≤ n) (h1 : n ≤ 9223372036854775807) (H : Hp) : CallO Tryz.prog 88 [pv (.int .i64 n)] H [] fun e H' G' => e = .ret (pv (.string (kidB n))) ∧ H' = H ∧ G' = [] := by
  have hs := itoa_size n h0 h1
  refine CallO.of_body tab Tryz.func88 rfl (nt := Tryz.f88.ntmps) rfl (by kernel_rfl) ?_
  (conv => whnf)
  refine ⟨⟨_, Tryz.func66, rfl, by kernel_rfl⟩, CallS.use (itoa n h0 h1 H []) [] rfl rfl trivial ?_⟩
  rintro e H2 G' hle ⟨rfl, rfl, rfl⟩
  (conv => whnf)
  refine ⟨by show 1 + _ ≤ _; omega, ?_⟩
  (conv => whnf)
  exact ⟨rfl, rfl, rfl⟩
def kidsB (count : Int) : List ByteArray := (List.range (count - oldest count + 1).toNat).map fun i : Nat => kidB (oldest count + i)
def kidsUp (count : Int) (i : Nat) : List ByteArray := (List.range i).map fun j : Nat => kidB (oldest count + j)
theorem kidsUp_succ (count : Int) (i : Nat) : kidsUp count (i + 1) = kidsUp count i ++ [kidB (oldest count + i)] := by unfold kidsUp; rw [List.range_succ, List.map_append]; rfl
def strV (l : List ByteArray) : List Value := l.map .string
theorem oldest_le (count : Int) (hc : 1 ≤ count) : 1 ≤ oldest count ∧ oldest count ≤ count ∧ count - oldest count ≤ 7 := by unfold oldest maxB; split <;> omega
theorem kids_ (A : Option Addr) (n cap : Nat) (count : Int) (hc : 1 ≤ count) (hc2 : count ≤ 1099511627776) (H : Hp) : CallO Tryz.prog 80 [.si (.ce (.ptr 0 0))] H [ringB A n cap count] fun e H' G' =>
    (∃ B m c, e = .ret (pv (.slice B m c)) ∧ VAt H' B m (strV (kidsB count))) ∧ G' = [ringB A n cap count] := by
  refine CallO.sub (K0 := fun e H' G' => (∃ B m c, e = .ret (pv (.slice B m c)) ∧ VAt H' B m (strV (kidsB count))) ∧ ∃ L, G' = ringB A n cap count :: L) (CallO.frz (K0 := fun e _ G' => ∃ j t L, e = .ret (.si (.ce (.self (j + 1)))) ∧ G' = ringB A n cap count :: L ∧ L[j]? = some (.row t 1 (kidsB count).length (strV (kidsB count)))) ?_ ?_) ?_
  · refine CallO.of_body tab Tryz.func80 rfl (nt := Tryz.f80.ntmps) rfl (by kernel_rfl) ?_
    (conv => whnf)
    refine ⟨⟨_, Tryz.func132, rfl, by kernel_rfl⟩, CallS.use (oldest_ A n cap count hc hc2 H) [0] rfl rfl ⟨rfl, trivial⟩ ?_⟩
    rintro e H2 G' hle ⟨rfl, rfl, rfl⟩
    (conv => whnf)
    obtain ⟨o1, o2, o3⟩ := oldest_le count hc
    refine WS.nilRow 3 9 1 rfl ?_
    (conv => whnf)
    refine WS.loop (fun k F H3 G => ∃ i : Nat, (i : Int) ≤ count - oldest count + 1 ∧ k = 10 - i ∧ F = [(0, .si (.ce (.ptr 0 0))), (3, .si (.ce (.self 1))), (4, pv (.int .i64 (oldest count + i)))] ∧ H2.Le H3 ∧ G = [ringB A n cap count, .row 9 1 i (strV (kidsUp count i))]) 11 ?_ ?_
    · refine ⟨10, by omega, _, _, [0, 1], ⟨0, by omega, rfl, rfl, .refl _, rfl⟩, ?_⟩
      exact ⟨rfl, ⟨rfl, rfl, trivial⟩, rfl, rfl, by simp [SV.ren, pv, SG.ren, SC.ren, getX], trivial⟩
    rintro k F H3 G hle2 ⟨i, hi, rfl, rfl, hle3, rfl⟩
    refine codeL.go tab ?_
    (conv => whnf)
    refine br.of (fun h1 => ?_) (fun h1 => ?_) <;> (conv => whnf)
    · simp only [decide_eq_true_eq] at h1
      refine ⟨⟨_, Tryz.func88, rfl, by kernel_rfl⟩, CallS.use (name_ (oldest count + i) (by omega) (by omega) H3) [] rfl rfl trivial ?_⟩
      rintro e H4 G' hle4 ⟨rfl, rfl, rfl⟩
      (conv => whnf)
      refine ⟨by decide, .inl ?_⟩
      intro g H5 hle5 hrd
      (conv => whnf)
      refine ⟨_, rfl, hrd, fun u hu => by rcases List.mem_singleton.1 hu with rfl; rfl, ?_⟩
      (conv => whnf)
      refine ⟨by show _ * 17 ≤ _; omega, ?_⟩
      (conv => whnf)
      rw [wrap64 (x := oldest count + i + 1) (by omega) (by omega)]
      refine ⟨10 - (i + 1), by omega, _, _, [0, 2], ⟨i + 1, by omega, rfl, rfl, hle3.trans hle5, rfl⟩, ?_⟩
      refine ⟨rfl, ⟨rfl, ?_, trivial⟩, rfl, rfl, ?_, trivial⟩
      · rw [kidsUp_succ]
        show SB.row _ 1 (i + 1) (strV (kidsUp count i) ++ [.string _]) = SB.row _ 1 (i + 1) (strV (kidsUp count i ++ [_]))
        unfold strV
        rw [List.map_append]; rfl
      · show pv _ = pv _
        congr 2; omega
    · simp only [decide_eq_false_iff_not] at h1
      have hi2 : i = (count - oldest count + 1).toNat := by omega
      subst hi2
      refine ⟨0, 9, _, rfl, rfl, ?_⟩
      show some (SB.row _ 1 _ _) = _
      have : (kidsB count).length = (count - oldest count + 1).toNat := by unfold kidsB; simp
      rw [this]; rfl
  · rintro e H' G' hle ⟨j, t, L, rfl, rfl, hj⟩
    refine ⟨j + 1, t, 1, _, _, hj, fun h0 => ?_, fun x H2 hle2 hfr => ?_⟩
    · have : kidsB count = [] := List.eq_nil_of_length_eq_zero h0
      rw [this]; rfl
    · obtain ⟨B, c, rfl, hv⟩ := VAt.of_frozen (by unfold strV; simp) hfr
      refine ⟨⟨B, _, c, ?_, hv⟩, ?_⟩
      · show SE.ret (.si (.ce (SC.at (j + 1) _ (.self (j + 1))))) = _
        simp [SC.at, pv]
      · exact ⟨_, rfl⟩
  · rintro e H' G' hle ⟨⟨B, m, c, rfl, hv⟩, L, rfl⟩
    exact ⟨_, [ringB A n cap count], [0], rfl, ⟨rfl, trivial⟩, rfl, ⟨B, m, c, rfl, hv⟩, rfl⟩
end Go.Kx.Ring
namespace Go.Proofs
open Go.Shelf
def Tryz.laysCutP_ren : Go.Shelf.Ren := ⟨fun | 103 => 167 | 210 => 206 | 206 => 239 | n => n, fun | 9 => 9 | 4 => 4 | 24 => 65 | 3 => 3 | n => n, fun | n => n⟩
theorem Tryz.laysCutP : Go.Proofs.Lays.n103 Tryz.prog Tryz.laysCutP_ren where
  mixed := by kernel_rfl
  f103 := Tryz.func167.trans (congrArg some (by kernel_rfl))
  f206 := Tryz.func239.trans (congrArg some (by kernel_rfl))
  f210 := Tryz.func206.trans (congrArg some (by kernel_rfl))
  t3 := Tryz.underlying3
  a3 := Tryz.isAgg3
  z3 := Tryz.sizeOf3
  v3 := Tryz.zeroValue3
  t4 := Tryz.underlying4
  a4 := Tryz.isAgg4
  z4 := Tryz.sizeOf4
  v4 := Tryz.zeroValue4
  t9 := Tryz.underlying9
  a9 := Tryz.isAgg9
  z9 := Tryz.sizeOf9
  v9 := Tryz.zeroValue9
  t24 := Tryz.underlying65
  a24 := Tryz.isAgg65
  z24 := Tryz.sizeOf65
  v24 := Tryz.zeroValue65

end Go.Proofs
namespace Go.Kx.Ring
open Go.Proofs Go.Kx Go.Kx.Sha Go.Kx.Lb
set_option maxRecDepth 20000

def ErrH (H : Hp) : Prop := ∀ g, (g = 3 ∨ g = 4) → ∃ te pe, H g 0 = some (.iface te pe)
theorem ErrH.mono {H H' : Hp} (h : H.Le H') (he : ErrH H) : ErrH H' := fun g hg => let ⟨te, pe, e⟩ := he g hg; ⟨te, pe, h _ _ _ e⟩
theorem cutP (s : ByteArray) (H : Hp) : CallO Tryz.prog 167 [pv (.string s), pv (.string ⟨#[107]⟩)] H [] fun e H' G' =>
    ∃ (t : ByteArray) (b : Bool), b = Lib.hasPrefix s.data.toList [107] ∧ t.data.toList = Lib.trimPrefix s.data.toList [107] ∧ t.size ≤ s.size ∧ e = .ret (.tu [.ce (.val (.string t)), .ce (.val (.bool b))]) ∧ H' = H ∧ G' = [] := by
  refine (CallO.of_calls (args := [.string s, .string ⟨#[107]⟩]) (R := fun v => v = .tuple #[.string ⟨(Lib.trimPrefix s.data.toList [107]).toArray⟩, .bool (Lib.hasPrefix s.data.toList [107])]) fun w hg _ => ?_).mono ?_
  · refine (Any.strings_CutPrefix Tryz.laysCutP s ⟨#[107]⟩ w).mono fun e w' ⟨he, hw⟩ => ⟨_, he, rfl, ?_⟩
    subst hw; exact grown_refl _
  · rintro e H' G' hle ⟨v, rfl, rfl, rfl, rfl⟩
    refine ⟨_, _, rfl, rfl, ?_, rfl, rfl, rfl⟩
    show (Lib.trimPrefix s.data.toList [107]).toArray.size ≤ s.size
    rw [List.size_toArray]
    unfold Lib.trimPrefix
    have : s.data.toList.length = s.size := rfl
    split
    · rw [List.length_drop]; omega
    · omega
def NumIs (count : Int) (kid : ByteArray) (m : Int) : Prop := (m ≠ 0 → oldest count ≤ m ∧ m ≤ count ∧ kid = kidB m) ∧ (∀ n, oldest count ≤ n → n ≤ count → kid = kidB n → m = n)
theorem itoa_dec {n : Int} (h : 0 ≤ n) : (itoaB n).data.toList = Lib.decDigits n.toNat := by
  show (Lib.itoa n).toArray.toList = _
  unfold Lib.itoa
  rw [if_neg (by omega)]
theorem kid_list (n : Int) : (kidB n).data.toList = 107 :: (itoaB n).data.toList := by
  unfold kidB
  rw [ByteArray.data_append, Array.toList_append]; rfl
theorem number_ (A : Option Addr) (n cap : Nat) (count : Int) (kid : ByteArray) (hk : kid.size ≤ 100) (hc : 1 ≤ count) (hc2 : count ≤ 1099511627776) (H : Hp) (hE : ErrH H) : CallO Tryz.prog 133 [.si (.ce (.ptr 0 0)), pv (.string kid)] H [ringB A n cap count] fun e H' G' =>
    ∃ m, NumIs count kid m ∧ e = .ret (pv (.int .i64 m)) ∧ H' = H ∧ G' = [ringB A n cap count] := by
  obtain ⟨o1, o2, o3⟩ := oldest_le count hc
  -- a kid that is one's is read as its number
  have key : ∀ u, oldest count ≤ u → u ≤ count → kid = kidB u → Lib.hasPrefix kid.data.toList [107] = true ∧ Lib.atoiAll (Lib.trimPrefix kid.data.toList [107]) = .ok u := by
    intro u h1 h2 h3
    have e1 : kid.data.toList = 107 :: Lib.decDigits u.toNat := by rw [h3, kid_list, itoa_dec (by omega)]
    have e2 : Lib.hasPrefix kid.data.toList [107] = true := by rw [e1]; unfold Lib.hasPrefix; simp
    have e3 : Lib.trimPrefix kid.data.toList [107] = Lib.decDigits u.toNat := by
      unfold Lib.trimPrefix
      rw [e2, e1]; simp
    refine ⟨e2, ?_⟩
    rw [e3, atoi_dec u.toNat (by omega)]
    congr 1; omega
  have none : (Lib.hasPrefix kid.data.toList [107] = false ∨ ∀ u, Lib.atoiAll (Lib.trimPrefix kid.data.toList [107]) ≠ .ok u) → NumIs count kid 0 := by
    intro h
    refine ⟨fun h => absurd rfl h, fun u h1 h2 h3 => ?_⟩
    obtain ⟨e1, e2⟩ := key u h1 h2 h3
    rcases h with h | h
    · rw [e1] at h; cases h
    · exact absurd e2 (h u)
  refine CallO.of_body tab Tryz.func133 rfl (nt := Tryz.f133.ntmps) rfl (by kernel_rfl) ?_
  (conv => whnf)
  refine ⟨⟨_, Tryz.func167, rfl, by kernel_rfl⟩, CallS.use (cutP kid H) [] rfl rfl trivial ?_⟩
  rintro e H2 G' hle ⟨t, b, hb, ht, hts, rfl, rfl, rfl⟩
  rw [← hb, ← ht] at none
  (conv => whnf)
  refine ⟨⟨_, Tryz.func168, rfl, by kernel_rfl⟩, CallS.use (atoi t (by omega) H2 [] hE) [] rfl rfl trivial ?_⟩
  rintro e H3 G' hle2 ⟨⟨v, x, rfl, hv⟩, rfl, rfl⟩
  cases b with
  | false =>
    (conv => whnf)
    exact ⟨0, none (.inl rfl), rfl, rfl, rfl⟩
  | true =>
    rcases hv with ⟨hv, rfl⟩ | ⟨hv, te, pe, rfl⟩
    · obtain ⟨vb0, vb1⟩ := Lib.atoiAll_bounds hv
      (conv => whnf)
      refine ⟨⟨_, Tryz.func88, rfl, by kernel_rfl⟩, CallS.use (name_ v (by omega) (by omega) H3) [] rfl rfl trivial ?_⟩
      rintro e H4 G' hle3 ⟨rfl, rfl, rfl⟩
      (conv => whnf)
      have uniq : ∀ u, oldest count ≤ u → u ≤ count → kid = kidB u → u = v := by
        intro u h1 h2 h3
        obtain ⟨_, e2⟩ := key u h1 h2 h3
        rw [ht] at hv
        rw [e2] at hv
        injection hv
      refine br.of (fun h1 => ?_) (fun h1 => ?_) <;> (conv => whnf)
      · simp only [Bool.not_eq_true', strEq_false] at h1
        refine ⟨0, ⟨fun h => absurd rfl h, fun u h2 h3 h4 => ?_⟩, rfl, rfl, rfl⟩
        have := uniq u h2 h3 h4
        subst this
        exact absurd h4.symm h1
      · simp only [Bool.not_eq_false', strEq_iff] at h1
        refine ⟨⟨_, Tryz.func132, rfl, by kernel_rfl⟩, CallS.use (oldest_ A n cap count hc hc2 H4) [0] rfl rfl ⟨rfl, trivial⟩ ?_⟩
        rintro e H5 G' hle4 ⟨rfl, rfl, rfl⟩
        (conv => whnf)
        refine br.of (fun h2 => ?_) (fun h2 => ?_) <;> (conv => whnf)
        · simp only [decide_eq_true_eq] at h2
          refine ⟨0, ⟨fun h => absurd rfl h, fun u h3 h4 h5 => ?_⟩, rfl, rfl, rfl⟩
          have := uniq u h3 h4 h5
          omega
        · simp only [decide_eq_false_iff_not] at h2
          refine br.of (fun h3 => ?_) (fun h3 => ?_) <;> (conv => whnf)
          · simp only [gt_iff_lt, decide_eq_true_eq] at h3
            refine ⟨0, ⟨fun h => absurd rfl h, fun u h4 h5 h6 => ?_⟩, rfl, rfl, rfl⟩
            have := uniq u h4 h5 h6
            omega
          · simp only [gt_iff_lt, decide_eq_false_iff_not] at h3
            exact ⟨v, ⟨fun _ => ⟨by omega, by omega, h1.symm⟩, fun u h4 h5 h6 => (uniq u h4 h5 h6).symm⟩, rfl, rfl, rfl⟩
    · (conv => whnf)
      exact ⟨0, none (.inr hv), rfl, rfl, rfl⟩
end Go.Kx.Ring
namespace Go.Kx.Ring
open Go.Proofs Go.Kx Go.Kx.Sha Go.Kx.Lb
set_option maxRecDepth 20000

def infoB (kid : ByteArray) : List UInt8 := ([107, 105, 100, 58] : List UInt8) ++ kid.data.toList
theorem info_cells (kid : ByteArray) : byteCells ((⟨#[107, 105, 100, 58]⟩ : ByteArray) ++ kid) = bCells (infoB kid) := by
  rw [byteCells_map]
  unfold infoB bCells
  rw [ByteArray.data_append, Array.toList_append, List.map_map]; rfl
theorem info_size (kid : ByteArray) : ((⟨#[107, 105, 100, 58]⟩ : ByteArray) ++ kid).size = (infoB kid).length := by
  show ((⟨#[107, 105, 100, 58]⟩ : ByteArray) ++ kid).data.toList.length = _
  rw [ByteArray.data_append, Array.toList_append]; rfl
theorem secret_ (ms : List UInt8) (A : Option Addr) (n cap : Nat) (count : Int) (kid : ByteArray) (H : Hp) (hb : BytesAt H A n ms) (hn : n ≤ 1000000) (hk : kid.size ≤ 100) : CallO Tryz.prog 89 [.si (.ce (.ptr 0 0)), pv (.string kid)] H [ringB A n cap count] fun e _ G' =>
    e = .ret (.si (.ce (.self 1))) ∧ G' = [ringB A n cap count, .row 5 1 32 (bCells (hkdf ms (infoB kid)))] := by
  refine CallO.of_body tab Tryz.func89 rfl (nt := Tryz.f89.ntmps) rfl (by kernel_rfl) ?_
  (conv => whnf)
  refine ⟨by show 4 + _ ≤ _; omega, ?_⟩
  (conv => whnf)
  have hsz := info_size kid
  have hsl : (infoB kid).length = 4 + kid.size := by unfold infoB; rw [List.length_append]; rfl
  intro g c H2 hle hc hrd
  rw [info_cells] at hrd
  (conv => whnf)
  refine ⟨⟨_, Tryz.func140, rfl, by kernel_rfl⟩, CallS.use (expand ms (infoB kid) A (some ⟨g, 0, none⟩) n cap _ c H2 (hb.mono hle) (BytesAt.lit hsz hrd) hn (by omega)) [] rfl rfl trivial ?_⟩
  rintro e H3 G' hle2 ⟨rfl, rfl⟩
  (conv => whnf)
  exact ⟨rfl, rfl⟩
theorem key_ (ms : List UInt8) (A : Option Addr) (n cap : Nat) (count : Int) (kid : ByteArray) (H : Hp) (hE : ErrH H) (hc : 1 ≤ count) (hc2 : count ≤ 1099511627776) (hb : BytesAt H A n ms) (hn : n ≤ 1000000) (hk : kid.size ≤ 100) :
    CallO Tryz.prog 83 [.si (.ce (.ptr 0 0)), pv (.string kid)] H [ringB A n cap count] fun e _ G' =>
    ∃ m, NumIs count kid m ∧ (m = 0 → e = .ret (.tu [.ce (.val (.slice none 0 0)), .ce (.val (.int .i64 41))]) ∧ G' = [ringB A n cap count]) ∧
      (m ≠ 0 → e = .ret (.tu [.ce (.self 1), .ce (.val (.int .i64 0))]) ∧ G' = [ringB A n cap count, .row 5 1 32 (bCells (hkdf ms (infoB kid)))]) := by
  refine CallO.of_body tab Tryz.func83 rfl (nt := Tryz.f83.ntmps) rfl (by kernel_rfl) ?_
  (conv => whnf)
  refine ⟨⟨_, Tryz.func133, rfl, by kernel_rfl⟩, CallS.use (number_ A n cap count kid hk hc hc2 H hE) [0] rfl rfl ⟨rfl, trivial⟩ ?_⟩
  rintro e H2 G' hle ⟨m, hm, rfl, rfl, rfl⟩
  (conv => whnf)
  refine br.of (fun h1 => ?_) (fun h1 => ?_) <;> (conv => whnf)
  · simp only [beq_iff_eq] at h1
    exact ⟨m, hm, fun _ => ⟨rfl, rfl⟩, fun h => absurd h1 h⟩
  · simp only [beq_eq_false_iff_ne, ne_eq] at h1
    refine ⟨⟨_, Tryz.func89, rfl, by kernel_rfl⟩, CallS.use (secret_ ms A n cap count kid H2 hb hn hk) [0] rfl rfl ⟨rfl, trivial⟩ ?_⟩
    rintro e H3 G' hle2 ⟨rfl, rfl⟩
    (conv => whnf)
    exact ⟨m, hm, fun h => absurd h h1, fun _ => ⟨rfl, rfl⟩⟩
end Go.Kx.Ring
namespace Go.Kx.Ring
open Go.Proofs Go.Kx Go.Kx.Sha Go.Kx.Lb
set_option maxRecDepth 20000
namespace Ref14
def T : Tab := [(3, { k := TK.int IntKind.i64, agg := false, size := 1, bytes := 8, zero := [Z.i IntKind.i64] }), (69, { k := TK.slice 9, agg := false, size := 1, bytes := 24, zero := [Z.sl] }), (4, { k := TK.bool, agg := false, size := 1, bytes := 1, zero := [Z.b] }), (9, { k := TK.string, agg := false, size := 1, bytes := 16, zero := [Z.s] }), (55, { k := TK.slice 5, agg := false, size := 1, bytes := 24, zero := [Z.sl] }), (5, { k := TK.int IntKind.u8, agg := false, size := 1, bytes := 1, zero := [Z.i IntKind.u8] })]
set_option maxRecDepth 100000 in
theorem tab : TabOk Tryz.prog T := tabOk_mk (ts := [3, 69, 4, 9, 55, 5]) (by kernel_rfl)
theorem itoa_nat (n : Nat) : Lib.itoa (n : Int) = Lib.decDigits n := by
  unfold Lib.itoa
  rw [if_neg (by omega), Int.toNat_natCast]
def digB (d : Nat) : ByteArray := ⟨#[UInt8.ofNat (48 + d)]⟩
theorem dig_cells (d : Nat) (hd : d < 10) {x : Int} (hx : x = (d : Int)) : byteCells (digB d) = [Value.int .u8 (IntKind.u8.wrap (IntKind.i64.wrap (48 + x)))] := by
  subst hx
  rw [wrap64 (by omega) (by omega), wrap8, byteCells_map]
  show [Value.int .u8 ((UInt8.ofNat (48 + d)).toNat : Int)] = _
  rw [UInt8.toNat_ofNat']
  congr 2
theorem itoaB_one (n : Nat) (h : n < 10) : itoaB n = digB n := by
  unfold itoaB digB
  rw [itoa_nat, Lib.decDigits_one h]
theorem itoaB_snoc (n : Nat) (h : ¬ n < 10) : itoaB n = itoaB (n / 10 : Nat) ++ digB (n % 10) := by
  unfold itoaB digB
  rw [itoa_nat, itoa_nat, decDigits_big h]
  apply ByteArray.ext
  rw [ByteArray.data_append]
  simp
theorem digits (n : Nat) (hn : n ≤ 1000000000000000) (H : Hp) : CallO Tryz.prog 86 [pv (.int .i64 n)] H [] fun e _ G' => e = .ret (pv (.string (itoaB n))) ∧ G' = [] := by
  induction n using Nat.strongRecOn generalizing H with
  | _ n ih =>
    refine CallO.of_body tab Tryz.func86 rfl (nt := Tryz.f86.ntmps) rfl (by kernel_rfl) ?_
    (conv => whnf)
    refine br.of (fun h1 => ?_) (fun h1 => ?_) <;> (conv => whnf)
    · simp only [decide_eq_true_eq] at h1
      refine ⟨by decide, .inl ?_⟩
      intro g H2 hle hrd
      (conv => whnf)
      refine ⟨digB n, rfl, .inr (by rw [dig_cells n (by omega) rfl]; exact hrd), ?_⟩
      (conv => whnf)
      exact ⟨by rw [itoaB_one n (by omega)]; rfl, rfl⟩
    · simp only [decide_eq_false_iff_not] at h1
      have h10 : ¬ n < 10 := by omega
      have hd : (n : Int).tdiv 10 = ((n / 10 : Nat) : Int) := by rw [Int.tdiv_eq_ediv_of_nonneg (by omega)]; omega
      have hm : (n : Int).tmod 10 = ((n % 10 : Nat) : Int) := by rw [Int.tmod_eq_emod_of_nonneg (by omega)]; omega
      have hdw : IntKind.i64.wrap ((n : Int).tdiv 10) = ((n / 10 : Nat) : Int) := by rw [hd, wrap64 (by omega) (by omega)]
      have hi := itoa_size ((n / 10 : Nat) : Int) (by omega) (by omega)
      refine WS.draw tab mixed (.take 0 (.take 1 (.take 3 (.take 4 (.take 5 (.take 6 (.alt 2 (.alt 7 (.alt 8 (.take 9 (.take 10 .done)) .no) .no) (.alt 7 (.alt 2 (.alt 8 (.take 9 (.take 10 .done)) .no) (.alt 8 (.alt 2 (.take 9 (.take 10 .done)) .no) .no)) .no)))))))) (by kernel_rfl) [] ?_
      (conv => whnf)
      refine ⟨by decide, ?_⟩
      (conv => whnf)
      refine ⟨by decide, ?_⟩
      (conv => whnf)
      rw [hdw, hm]
      (conv => whnf)
      repeat' (first
        | exact trivial
        | exact rfl
        | exact ⟨_, Tryz.func86, rfl, by kernel_rfl⟩
        | (refine CallS.use (ih (n / 10) (by omega) (by omega) _) [] rfl rfl trivial ?_; rintro e H' G' hle ⟨rfl, rfl⟩; (conv => whnf))
        | (refine ⟨by decide, .inl ?_⟩; intro g H2 hle2 hrd; (conv => whnf))
        | (refine ⟨digB (n % 10), rfl, .inr (by rw [dig_cells (n % 10) (by omega) rfl]; exact hrd), ?_⟩; (conv => whnf))
        | (refine ⟨digB (n % 10), rfl, .inr (by rw [dig_cells (n % 10) (by omega) rfl]; exact hrd.mono hle), ?_⟩; (conv => whnf))
        | (refine ⟨by show _ + 1 ≤ _; omega, ?_⟩; (conv => whnf))
        | exact ⟨by rw [itoaB_snoc n h10]; rfl, rfl⟩
        | (refine And.intro ?_ ?_ <;> (conv => whnf)))
theorem digits_ (v : Int) (h0 : 0 ≤ v) (hn : v ≤ 1000000000000000) (H : Hp) : CallO Tryz.prog 86 [pv (.int .i64 v)] H [] fun e _ G' => e = .ret (pv (.string (itoaB v))) ∧ G' = [] := by
  obtain ⟨n, rfl⟩ : ∃ n : Nat, v = n := ⟨v.toNat, by omega⟩
  exact digits n (by omega) H
def KI (count : Int) (H2 : Hp) (k : Nat) (F : Fr) (H3 : Hp) (G : List SB) : Prop :=
  ∃ i : Nat, (i : Int) ≤ count - oldest count + 1 ∧ k = 10 - i ∧ F = [(0, pv (.int .i64 count)), (4, .si (.ce (.self 0))), (5, pv (.int .i64 (oldest count + i)))] ∧ H2.Le H3 ∧ G = [.row 9 1 i (strV (kidsUp count i))]
theorem kids0 (count : Int) (hc : 1 ≤ count) (hc2 : count ≤ 1099511627776) (H : Hp) : CallO Tryz.prog 40 [pv (.int .i64 count)] H [] fun e _ G' =>
    e = .ret (.si (.ce (.self 0))) ∧ G' = [.row 9 1 (kidsB count).length (strV (kidsB count))] := by
  refine CallO.of_body tab Tryz.func40 rfl (nt := Tryz.f40.ntmps) rfl (by kernel_rfl) ?_
  (conv => whnf)
  rw [wrap64 (x := count - 7) (by omega) (by omega)]
  obtain ⟨o1, o2, o3⟩ := oldest_le count hc
  have ho : oldest count = if count - 7 < 1 then 1 else count - 7 := by unfold oldest maxB; split <;> split <;> omega
  refine br.of (fun h0 => ?_) (fun h0 => ?_) <;> (conv => whnf)
  · simp only [decide_eq_true_eq] at h0
    rw [if_pos h0] at ho
    refine WS.nilRow 4 9 1 rfl ?_
    (conv => whnf)
    refine WS.loop (KI count H) 11 ?_ ?_
    · refine ⟨10, by omega, _, _, [0], ⟨0, by omega, rfl, rfl, .refl _, rfl⟩, ?_⟩
      refine ⟨rfl, ⟨rfl, trivial⟩, rfl, rfl, ?_, trivial⟩
      rw [ho]
      simp [SV.ren, pv, SG.ren, SC.ren, getX]
    clear ho h0
    rintro k F H3 G hle2 ⟨i, hi, rfl, rfl, hle3, rfl⟩
    refine codeL.go tab ?_
    (conv => whnf)
    refine br.of (fun h1 => ?_) (fun h1 => ?_) <;> (conv => whnf)
    · simp only [decide_eq_true_eq] at h1
      refine ⟨⟨_, Tryz.func86, rfl, by kernel_rfl⟩, CallS.use (digits_ (oldest count + i) (by omega) (by omega) H3) [] rfl rfl trivial ?_⟩
      rintro e H4 G' hle4 ⟨rfl, rfl⟩
      (conv => whnf)
      have hs := itoa_size (oldest count + i) (by omega) (by omega)
      refine ⟨by show 1 + _ ≤ _; omega, ?_⟩
      (conv => whnf)
      refine ⟨by decide, .inl ?_⟩
      intro g H5 hle5 hrd
      (conv => whnf)
      refine ⟨_, rfl, hrd, fun u hu => by rcases List.mem_singleton.1 hu with rfl; rfl, ?_⟩
      (conv => whnf)
      refine ⟨by show _ * 17 ≤ _; omega, ?_⟩
      (conv => whnf)
      rw [wrap64 (x := oldest count + i + 1) (by omega) (by omega)]
      refine ⟨10 - (i + 1), by omega, _, _, [1], ⟨i + 1, by omega, rfl, rfl, hle3.trans (hle4.trans hle5), rfl⟩, ?_⟩
      refine ⟨rfl, ⟨?_, trivial⟩, rfl, rfl, ?_, trivial⟩
      · rw [kidsUp_succ]
        show SB.row _ 1 (i + 1) (strV (kidsUp count i) ++ [.string _]) = SB.row _ 1 (i + 1) (strV (kidsUp count i ++ [_]))
        unfold strV
        rw [List.map_append]; rfl
      · show pv _ = pv _
        congr 2; omega
    · simp only [decide_eq_false_iff_not] at h1
      have hi2 : i = (count - oldest count + 1).toNat := by omega
      subst hi2
      refine ⟨rfl, ?_⟩
      have : (kidsB count).length = (count - oldest count + 1).toNat := by unfold kidsB; simp
      rw [this]; rfl
  · simp only [decide_eq_false_iff_not] at h0
    rw [if_neg h0] at ho
    refine WS.nilRow 4 9 1 rfl ?_
    (conv => whnf)
    refine WS.loop (KI count H) 11 ?_ ?_
    · refine ⟨10, by omega, _, _, [0], ⟨0, by omega, rfl, rfl, .refl _, rfl⟩, ?_⟩
      refine ⟨rfl, ⟨rfl, trivial⟩, rfl, rfl, ?_, trivial⟩
      rw [ho]
      simp [SV.ren, pv, SG.ren, SC.ren, getX]
    clear ho h0
    rintro k F H3 G hle2 ⟨i, hi, rfl, rfl, hle3, rfl⟩
    refine codeL.go tab ?_
    (conv => whnf)
    refine br.of (fun h1 => ?_) (fun h1 => ?_) <;> (conv => whnf)
    · simp only [decide_eq_true_eq] at h1
      refine ⟨⟨_, Tryz.func86, rfl, by kernel_rfl⟩, CallS.use (digits_ (oldest count + i) (by omega) (by omega) H3) [] rfl rfl trivial ?_⟩
      rintro e H4 G' hle4 ⟨rfl, rfl⟩
      (conv => whnf)
      have hs := itoa_size (oldest count + i) (by omega) (by omega)
      refine ⟨by show 1 + _ ≤ _; omega, ?_⟩
      (conv => whnf)
      refine ⟨by decide, .inl ?_⟩
      intro g H5 hle5 hrd
      (conv => whnf)
      refine ⟨_, rfl, hrd, fun u hu => by rcases List.mem_singleton.1 hu with rfl; rfl, ?_⟩
      (conv => whnf)
      refine ⟨by show _ * 17 ≤ _; omega, ?_⟩
      (conv => whnf)
      rw [wrap64 (x := oldest count + i + 1) (by omega) (by omega)]
      refine ⟨10 - (i + 1), by omega, _, _, [1], ⟨i + 1, by omega, rfl, rfl, hle3.trans (hle4.trans hle5), rfl⟩, ?_⟩
      refine ⟨rfl, ⟨?_, trivial⟩, rfl, rfl, ?_, trivial⟩
      · rw [kidsUp_succ]
        show SB.row _ 1 (i + 1) (strV (kidsUp count i) ++ [.string _]) = SB.row _ 1 (i + 1) (strV (kidsUp count i ++ [_]))
        unfold strV
        rw [List.map_append]; rfl
      · show pv _ = pv _
        congr 2; omega
    · simp only [decide_eq_false_iff_not] at h1
      have hi2 : i = (count - oldest count + 1).toNat := by omega
      subst hi2
      refine ⟨rfl, ?_⟩
      have : (kidsB count).length = (count - oldest count + 1).toNat := by unfold kidsB; simp
      rw [this]; rfl
theorem kids (count : Int) (hc : 1 ≤ count) (hc2 : count ≤ 1099511627776) (H : Hp) : CallO Tryz.prog 40 [pv (.int .i64 count)] H [] fun e H' G' =>
    (∃ B m c, e = .ret (pv (.slice B m c)) ∧ VAt H' B m (strV (kidsB count))) ∧ G' = [] := by
  refine CallO.sub (CallO.frz (K := fun e H' G' => (∃ B m c, e = .ret (pv (.slice B m c)) ∧ VAt H' B m (strV (kidsB count))) ∧ G' = [.dead]) (kids0 count hc hc2 H) ?_) ?_
  · rintro e H' G' hle ⟨rfl, rfl⟩
    refine ⟨0, 9, 1, _, _, rfl, fun h0 => ?_, fun x H2 hle2 hfr => ?_⟩
    · have : kidsB count = [] := List.eq_nil_of_length_eq_zero h0
      rw [this]; rfl
    · obtain ⟨B, c, rfl, hv⟩ := VAt.of_frozen (by unfold strV; simp) hfr
      exact ⟨⟨B, _, c, rfl, hv⟩, rfl⟩
  · rintro e H' G' hle ⟨⟨B, m, c, rfl, hv⟩, rfl⟩
    exact ⟨_, [], [], rfl, trivial, rfl, ⟨B, m, c, rfl, hv⟩, rfl⟩
theorem key (ms : List UInt8) (A : Option Addr) (n cap : Nat) (kid : ByteArray) (H : Hp) (hb : BytesAt H A n ms) (hn : n ≤ 100000) (hk : kid.size ≤ 100) : CallO Tryz.prog 41 [pv (.slice A n cap), pv (.string kid)] H [] fun e _ G' =>
    e = .ret (.si (.ce (.self 0))) ∧ G' = [.row 5 1 32 (bCells (hkdf ms (infoB kid)))] := by
  refine CallO.of_body tab Tryz.func41 rfl (nt := Tryz.f41.ntmps) rfl (by kernel_rfl) ?_
  (conv => whnf)
  refine ⟨by show 4 + _ ≤ _; omega, ?_⟩
  (conv => whnf)
  have hsz := info_size kid
  have hsl : (infoB kid).length = 4 + kid.size := by unfold infoB; rw [List.length_append]; rfl
  intro g c H2 hle hc hrd
  rw [info_cells] at hrd
  (conv => whnf)
  refine ⟨⟨_, Tryz.func87, rfl, by kernel_rfl⟩, CallS.use (Ref2.expand ms (infoB kid) A (some ⟨g, 0, none⟩) n cap _ c H2 (hb.mono hle) (BytesAt.lit hsz hrd) hn (by omega)) [] rfl rfl trivial ?_⟩
  rintro e H3 G' hle2 ⟨rfl, rfl⟩
  (conv => whnf)
  exact ⟨rfl, rfl⟩
end Ref14
end Go.Kx.Ring
namespace Go.Kx.Ring
open Go.Proofs Go.Kx Go.Kx.Sha Go.Kx.Lb
set_option maxRecDepth 20000
namespace Law
def T : Tab := [(25, { k := TK.st [(0, 9, 1), (1, 9, 1), (2, 9, 1), (3, 3, 1), (4, 9, 1), (5, 23, 3), (8, 3, 1), (9, 9, 1)], agg := true, size := 10, bytes := 144, zero := [Z.s, Z.s, Z.s, Z.i IntKind.i64, Z.s, Z.s, Z.s, Z.s, Z.i IntKind.i64, Z.s] }), (80, { k := TK.st [(0, 63, 2), (2, 55, 1), (3, 9, 1), (4, 55, 1)], agg := true, size := 5, bytes := 96, zero := [Z.s, Z.s, Z.sl, Z.s, Z.sl] }), (63, { k := TK.st [(0, 9, 1), (1, 9, 1)], agg := true, size := 2, bytes := 32, zero := [Z.s, Z.s] }), (5, { k := TK.int IntKind.u8, agg := false, size := 1, bytes := 1, zero := [Z.i IntKind.u8] }), (9, { k := TK.string, agg := false, size := 1, bytes := 16, zero := [Z.s] }), (23, { k := TK.st [(0, 9, 1), (1, 9, 1), (2, 9, 1)], agg := true, size := 3, bytes := 48, zero := [Z.s, Z.s, Z.s] }), (125, { k := TK.st [(0, 55, 1), (1, 3, 1)], agg := true, size := 2, bytes := 32, zero := [Z.sl, Z.i IntKind.i64] }), (3, { k := TK.int IntKind.i64, agg := false, size := 1, bytes := 8, zero := [Z.i IntKind.i64] }), (4, { k := TK.bool, agg := false, size := 1, bytes := 1, zero := [Z.b] }), (55, { k := TK.slice 5, agg := false, size := 1, bytes := 24, zero := [Z.sl] }), (74, { k := TK.ptr 125, agg := false, size := 1, bytes := 8, zero := [Z.p] }), (35, { k := TK.int IntKind.i64, agg := false, size := 1, bytes := 8, zero := [Z.i IntKind.i64] }), (69, { k := TK.slice 9, agg := false, size := 1, bytes := 24, zero := [Z.sl] })]
set_option maxRecDepth 100000 in
theorem tab : TabOk Tryz.prog T := tabOk_mk (ts := [25, 80, 63, 5, 9, 23, 125, 3, 4, 55, 74, 35, 69]) (by kernel_rfl)

def mst (c : UInt8) : List UInt8 := List.replicate 32 c
def fillUp (c : UInt8) (i : Nat) : List UInt8 := List.replicate i c ++ List.replicate (32 - i) 0
theorem fill_step (c : UInt8) {i : Nat} (hi : i < 32) {off : Nat} (ho : off = i) {x : Int} (hx : x = (c.toNat : Int)) : splice (bCells (fillUp c i)) off [Value.int .u8 x] = bCells (fillUp c (i + 1)) := by
  subst ho hx
  have e1 : fillUp c off = List.replicate off c ++ 0 :: List.replicate (32 - (off + 1)) 0 := by
    unfold fillUp
    rw [show 32 - off = (32 - (off + 1)) + 1 by omega, List.replicate_succ]
  have e2 : fillUp c (off + 1) = List.replicate off c ++ c :: List.replicate (32 - (off + 1)) 0 := by
    unfold fillUp
    rw [List.replicate_succ', List.append_assoc]; rfl
  rw [e1, e2]
  unfold bCells
  rw [List.map_append, List.map_append, List.map_cons, List.map_cons]
  exact splice_mid _ _ _ _ (by simp)
theorem zeros32 : (List.replicate (Int.toNat 32) (List.map Z.val [Z.i IntKind.u8])).flatten = bCells (List.replicate 32 0) := by kernel_rfl
def MI (c : UInt8) (H : Hp) (k : Nat) (F : Fr) (H2 : Hp) (G : List SB) : Prop :=
  ∃ i : Nat, i ≤ 32 ∧ k = 32 - i ∧ F = [(0, pv (.int .u8 c.toNat)), (3, .si (.ce (.self 0))), (7, pv (.int .i64 32)), (8, pv (.int .i64 i))] ∧ H2 = H ∧ G = [.row 5 1 32 (bCells (fillUp c i))]
theorem master (c : UInt8) (H : Hp) : CallO Tryz.prog 37 [pv (.int .u8 c.toNat)] H [] fun e H' G' => e = .ret (.si (.ce (.self 0))) ∧ H' = H ∧ G' = [.row 5 1 32 (bCells (mst c))] := by
  refine CallO.of_body tab Tryz.func37 rfl (nt := Tryz.f37.ntmps) rfl (by kernel_rfl) ?_
  (conv => whnf)
  refine ⟨by decide, ?_⟩
  (conv => whnf)
  refine WS.loop (MI c H) 33 ?_ ?_
  · refine ⟨32, by omega, _, _, [0], ⟨0, by omega, rfl, rfl, rfl, rfl⟩, ?_⟩
    refine ⟨rfl, ⟨?_, trivial⟩, rfl, rfl, rfl, rfl, trivial⟩
    rw [zeros32]; rfl
  rintro k F H2 G hle ⟨i, hi, rfl, rfl, rfl, rfl⟩
  refine codeL.go tab ?_
  (conv => whnf)
  refine br.of (fun h1 => ?_) (fun h1 => ?_) <;> (conv => whnf)
  · simp only [decide_eq_true_eq] at h1
    have h1' : i < 32 := by omega
    refine ⟨⟨by omega, by omega⟩, ?_⟩
    (conv => whnf)
    have hfl : (bCells (fillUp c i)).length = 32 := by rw [bCells_length]; unfold fillUp; simp; omega
    refine ⟨by rw [hfl]; show (i : Int).toNat * 1 + 1 ≤ 32; omega, ?_⟩
    (conv => whnf)
    rw [wrap64 (x := (i : Int) + 1) (by omega) (by omega)]
    refine ⟨32 - (i + 1), by omega, _, _, [0], ⟨i + 1, by omega, rfl, rfl, rfl, rfl⟩, ?_⟩
    refine ⟨rfl, ⟨?_, trivial⟩, rfl, rfl, rfl, rfl, trivial⟩
    rw [fill_step c h1' (by show (i : Int).toNat * 1 = i; omega) rfl]
    rfl
  · simp only [decide_eq_false_iff_not] at h1
    obtain rfl : i = 32 := by omega
    exact ⟨rfl, rfl, rfl⟩
theorem clone0 (bs : List UInt8) (n : Nat) (H : Hp) (hb : n = bs.length) (h0 : 0 < n) (hn : n ≤ 1000000) :
    CallO Tryz.prog 82 [.si (.ce (.self 0))] H [.row 5 1 n (bCells bs)] fun e _ G' => e = .ret (.si (.ce (.self 1))) ∧ G' = [.row 5 1 n (bCells bs), .row 5 1 n (bCells bs)] := by
  refine CallO.of_body tab Tryz.func82 rfl (nt := Tryz.f82.ntmps) rfl (by kernel_rfl) ?_
  (conv => whnf)
  refine ⟨h0, ?_⟩
  (conv => whnf)
  refine ⟨by decide, .inl ?_⟩
  intro g H2 hle hrd
  (conv => whnf)
  refine ⟨bCells_one bs, fun h => absurd h (by omega), fun _ => ⟨rfl, [], rfl, hrd, by show _ * 2 ≤ _; omega, ?_⟩⟩
  (conv => whnf)
  exact ⟨rfl, by rw [Nat.zero_add]; rfl⟩
theorem cloneO (bs : List UInt8) (n : Nat) (H : Hp) (hb : n = bs.length) (h0 : 0 < n) (hn : n ≤ 1000000) :
    CallO Tryz.prog 82 [.si (.ce (.self 0))] H [.row 5 1 n (bCells bs)] fun e H' G' => RetB bs e H' ∧ G' = [.row 5 1 n (bCells bs)] := by
  refine CallO.sub (CallO.frz (K := fun e H' G' => (∃ A k c, e = .ret (pv (.slice A k c)) ∧ BytesAt H' A k bs) ∧ G' = [.row 5 1 n (bCells bs), .dead]) (clone0 bs n H hb h0 hn) ?_) ?_
  · rintro e H' G' hle ⟨rfl, rfl⟩
    refine ⟨1, 5, 1, n, bCells bs, rfl, fun h => absurd h (by omega), fun x H2 hle2 hfr => ?_⟩
    obtain ⟨A, cap, rfl, hb⟩ := BytesAt.of_frozen hb hfr
    exact ⟨⟨A, n, cap, rfl, hb⟩, rfl⟩
  · rintro e H' G' hle ⟨⟨A, k, c, rfl, hb⟩, rfl⟩
    exact ⟨_, [.row 5 1 n (bCells bs)], [0], rfl, ⟨rfl, trivial⟩, rfl, ⟨A, k, c, rfl, hb⟩, rfl⟩
theorem newO (bs : List UInt8) (n : Nat) (count : Int) (H : Hp) (hb : n = bs.length) (h0 : 32 ≤ n) (hn : n ≤ 1000000) (hc : 1 ≤ count) (hc2 : count ≤ 1099511627776) :
    CallO Tryz.prog 36 [.si (.ce (.self 0)), pv (.int .i64 count)] H [.row 5 1 n (bCells bs)] fun e H' G' =>
      e = .ret (.tu [.ce (.ptr 1 0), .ce (.val (.int .i64 0))]) ∧ ∃ B m c, BytesAt H' B m bs ∧ G' = [.row 5 1 n (bCells bs), ringB B m c count] := by
  refine CallO.of_body tab Tryz.func36 rfl (nt := Tryz.f36.ntmps) rfl (by kernel_rfl) ?_
  (conv => whnf)
  refine br.of (fun h1 => ?_) (fun h1 => ?_) <;> (conv => whnf)
  · simp only [decide_eq_true_eq] at h1
    omega
  · refine br.of (fun h2 => ?_) (fun h2 => ?_) <;> (conv => whnf)
    · simp only [decide_eq_true_eq] at h2
      omega
    · refine br.of (fun h3 => ?_) (fun h3 => ?_) <;> (conv => whnf)
      · simp only [gt_iff_lt, decide_eq_true_eq] at h3
        omega
      · refine ⟨⟨_, Tryz.func82, rfl, by kernel_rfl⟩, CallS.use (cloneO bs n H hb (by omega) hn) [0] rfl rfl ⟨rfl, trivial⟩ ?_⟩
        rintro e H2 G' hle ⟨⟨B, m, c, rfl, hb2⟩, rfl⟩
        (conv => whnf)
        exact ⟨rfl, B, m, c, hb2, rfl⟩
theorem k3 : kidB 3 = ⟨#[107, 51]⟩ := by
  unfold kidB
  rw [show (3 : Int) = ((3 : Nat) : Int) from rfl, Ref14.itoaB_one 3 (by decide)]
  rfl
theorem k10 : kidB 10 = ⟨#[107, 49, 48]⟩ := by
  unfold kidB
  rw [show (10 : Int) = ((10 : Nat) : Int) from rfl, Ref14.itoaB_snoc 10 (by decide), Ref14.itoaB_one _ (by decide)]
  rfl
theorem kids10 : (strV (kidsB 10))[0]? = some (.string ⟨#[107, 51]⟩) ∧ (strV (kidsB 10))[7]? = some (.string ⟨#[107, 49, 48]⟩) ∧ (strV (kidsB 10)).length = 8 := by
  refine ⟨?_, ?_, rfl⟩
  · show some (Value.string (kidB (3 + (0 : Nat)))) = _
    rw [show (3 : Int) + (0 : Nat) = 3 by omega, k3]
  · show some (Value.string (kidB (3 + (7 : Nat)))) = _
    rw [show (3 : Int) + (7 : Nat) = 10 by omega, k10]
def AI (B : Option Addr) (m c : Nat) (H : Hp) (k : Nat) (F : Fr) (H2 : Hp) (G : List SB) : Prop :=
  ∃ i : Nat, i ≤ 9 ∧ k = 9 - i ∧ F = [(1, .si (.ce (.ptr 0 0))), (15, pv (.int .i64 i))] ∧ H2 = H ∧ G = [ringB B m c (1 + i)]
theorem anchor (H : Hp) : CallO Tryz.prog 35 [] H [] fun e _ G' => e = .ret (pv (.bool true)) ∧ G' = [] := by
  refine CallO.of_body tab Tryz.func35 rfl (nt := Tryz.f35.ntmps) rfl (by kernel_rfl) ?_
  (conv => whnf)
  refine ⟨⟨_, Tryz.func37, rfl, by kernel_rfl⟩, CallS.use (master 7 H) [] rfl rfl trivial ?_⟩
  rintro e H2 G' hle ⟨rfl, rfl, rfl⟩
  (conv => whnf)
  refine ⟨⟨_, Tryz.func36, rfl, by kernel_rfl⟩, CallS.use (newO (mst 7) 32 1 H2 rfl (by decide) (by decide) (by decide) (by decide)) [0] rfl rfl ⟨rfl, trivial⟩ ?_⟩
  rintro e H3 G' hle2 ⟨rfl, B, m, c, hb, rfl⟩
  (conv => whnf)
  refine WS.loop (AI B m c H3) 10 ?_ ?_
  · refine ⟨9, by omega, _, _, [1], ⟨0, by omega, rfl, rfl, rfl, rfl⟩, ?_⟩
    exact ⟨rfl, ⟨rfl, trivial⟩, rfl, rfl, trivial⟩
  rintro k F H4 G hle3 ⟨i, hi, rfl, rfl, rfl, rfl⟩
  refine codeL.go tab ?_
  (conv => whnf)
  refine br.of (fun h1 => ?_) (fun h1 => ?_) <;> (conv => whnf)
  · simp only [decide_eq_true_eq] at h1
    refine ⟨⟨_, Tryz.func44, rfl, by kernel_rfl⟩, CallS.use (rotate B m c (1 + i) (by omega) (by omega) H4) [0] rfl rfl ⟨rfl, trivial⟩ ?_⟩
    rintro e H5 G' hle4 ⟨-, h2, rfl⟩
    obtain ⟨rfl, rfl⟩ := h2 (by omega)
    (conv => whnf)
    rw [wrap64 (x := (i : Int) + 1) (by omega) (by omega)]
    refine ⟨9 - (i + 1), by omega, _, _, [0], ⟨i + 1, by omega, rfl, rfl, rfl, rfl⟩, ?_⟩
    refine ⟨rfl, ⟨?_, trivial⟩, rfl, rfl, trivial⟩
    show ringB B m c (1 + (i : Int) + 1) = ringB B m c (1 + ((i + 1 : Nat) : Int))
    congr 1
  · simp only [decide_eq_false_iff_not] at h1
    obtain rfl : i = 9 := by omega
    rw [show 1 + ((9 : Nat) : Int) = 10 from rfl]
    refine ⟨⟨_, Tryz.func80, rfl, by kernel_rfl⟩, CallS.use (kids_ B m c 10 (by decide) (by decide) H4) [0] rfl rfl ⟨rfl, trivial⟩ ?_⟩
    rintro e H5 G' hle4 ⟨⟨B2, n2, c2, rfl, hv⟩, rfl⟩
    obtain ⟨e0, e7, el⟩ := kids10
    have hn2 : n2 = 8 := hv.1.trans el
    subst hn2
    (conv => whnf)
    refine ⟨by decide, hv.addr (by decide), ?_⟩
    (conv => whnf)
    refine ⟨_, hv.get e0 rfl, ?_⟩
    (conv => whnf)
    refine ⟨by decide, hv.addr (by decide), ?_⟩
    (conv => whnf)
    refine ⟨_, hv.get e7 rfl, ?_⟩
    (conv => whnf)
    refine ⟨⟨_, Tryz.func81, rfl, by kernel_rfl⟩, CallS.use (count_ B m c 10 H5) [0] rfl rfl ⟨rfl, trivial⟩ ?_⟩
    rintro e H6 G' hle5 ⟨rfl, rfl, rfl⟩
    (conv => whnf)
    exact ⟨rfl, rfl⟩
end Law
end Go.Kx.Ring
