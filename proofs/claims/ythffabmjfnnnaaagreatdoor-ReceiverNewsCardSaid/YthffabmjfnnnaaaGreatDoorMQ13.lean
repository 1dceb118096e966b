/- SHA-256: the sum. No condition of its own. -/
import Derived.Test.YthffabmjfnnnaaaGreatDoorMQ12
namespace Go.Kx.Sha
open Go.Proofs Go.Kx
set_option maxRecDepth 20000

theorem wrap8 (x : Int) : IntKind.u8.wrap x = x % 256 := by simp [IntKind.wrap, IntKind.bits, IntKind.signed]
theorem byteOf_toNat (n : Nat) : ((byteOf (n : Int)).toNat : Int) = n % 256 := by
  unfold byteOf
  have : ((n : Int) % 256).toNat < 256 := by omega
  rw [UInt8.toNat_ofNat', Nat.mod_eq_of_lt this]; omega
theorem fdiv_pow (N k : Nat) : ((N : Int).fdiv (2 ^ k)) = ((N / 2 ^ k : Nat) : Int) := by
  rw [Int.fdiv_eq_ediv_of_nonneg _ (by exact Int.le_of_lt (Int.pow_pos (by decide))), Int.natCast_ediv, Int.natCast_pow]; rfl
theorem sh8 (N k : Nat) (b : Nat) (hk : k ≤ b) : IntKind.u8.wrap ((N : Int).fdiv (2 ^ min k b)) = ((byteOf (N / 2 ^ k : Nat)).toNat : Int) := by
  rw [Nat.min_eq_left hk, fdiv_pow, wrap8, byteOf_toNat]
theorem be8_get (N : Nat) : ∀ j, j < 8 → (be8 N)[j]? = some (byteOf (N / 2 ^ (56 - 8 * j) : Nat)) := by
  intro j hj
  have : j = 0 ∨ j = 1 ∨ j = 2 ∨ j = 3 ∨ j = 4 ∨ j = 5 ∨ j = 6 ∨ j = 7 := by omega
  rcases this with rfl | rfl | rfl | rfl | rfl | rfl | rfl | rfl <;> first | rfl | (simp [be8])
theorem take_get {l : List UInt8} {j : Nat} {x : UInt8} (h : l[j]? = some x) : l.take (j + 1) = l.take j ++ [x] := by
  obtain ⟨hj, rfl⟩ := List.getElem?_eq_some_iff.1 h
  exact List.take_succ_eq_append_getElem hj
theorem ones4 (k : IntKind) (a b c d : Int) : ∀ u ∈ [Value.int k a, .int k b, .int k c, .int k d], u.oneCell' = true := by
  intro u hu
  simp only [List.mem_cons, List.not_mem_nil, or_false] at hu
  rcases hu with rfl | rfl | rfl | rfl <;> rfl
def outT (s : St8) : Nat → List UInt8
  | 0 => []
  | 1 => be4 s.a
  | 2 => be4 s.a ++ be4 s.b
  | 3 => be4 s.a ++ be4 s.b ++ be4 s.c
  | 4 => be4 s.a ++ be4 s.b ++ be4 s.c ++ be4 s.d
  | 5 => be4 s.a ++ be4 s.b ++ be4 s.c ++ be4 s.d ++ be4 s.e
  | 6 => be4 s.a ++ be4 s.b ++ be4 s.c ++ be4 s.d ++ be4 s.e ++ be4 s.f
  | 7 => be4 s.a ++ be4 s.b ++ be4 s.c ++ be4 s.d ++ be4 s.e ++ be4 s.f ++ be4 s.g
  | _ => be4 s.a ++ be4 s.b ++ be4 s.c ++ be4 s.d ++ be4 s.e ++ be4 s.f ++ be4 s.g ++ be4 s.h
theorem outT_all (s : St8) : outT s 8 = outB s := by unfold outT outB; simp only [List.append_assoc]
theorem be4_cells (x : BitVec 32) : [Value.int .u8 (IntKind.u8.wrap ((u x).fdiv (2 ^ min (Int.toNat 24) IntKind.u32.bits))), .int .u8 (IntKind.u8.wrap ((u x).fdiv (2 ^ min (Int.toNat 16) IntKind.u32.bits))), .int .u8 (IntKind.u8.wrap ((u x).fdiv (2 ^ min (Int.toNat 8) IntKind.u32.bits))), .int .u8 (IntKind.u8.wrap (u x))] = bCells (be4 x) := by
  unfold u
  rw [show Int.toNat 24 = 24 from rfl, show Int.toNat 16 = 16 from rfl, show Int.toNat 8 = 8 from rfl, sh8 _ 24 _ (by decide), sh8 _ 16 _ (by decide), sh8 _ 8 _ (by decide)]
  have : IntKind.u8.wrap (x.toNat : Int) = ((byteOf (x.toNat : Nat)).toNat : Int) := by rw [wrap8, byteOf_toNat]
  rw [this]; rfl
theorem row_out (t : TypeId) (n : Nat) (a : List UInt8) (x : BitVec 32) : SB.row t 1 (n + 4) (bCells a ++ [Value.int .u8 (IntKind.u8.wrap ((u x).fdiv (2 ^ min (Int.toNat 24) IntKind.u32.bits))), .int .u8 (IntKind.u8.wrap ((u x).fdiv (2 ^ min (Int.toNat 16) IntKind.u32.bits))), .int .u8 (IntKind.u8.wrap ((u x).fdiv (2 ^ min (Int.toNat 8) IntKind.u32.bits))), .int .u8 (IntKind.u8.wrap (u x))]) = SB.row t 1 (n + 4) (bCells (a ++ be4 x)) := by
  rw [be4_cells, bCells_append]
theorem sum (m : List UInt8) (H : Hp) (hl : m.length ≤ 1000000000) :
    CallO Tryz.prog 147 [.si (.ce (.ptr 0 0))] H [hBox 1 m, hRow m] fun e _ G' => e = .ret (.si (.ce (.self 2))) ∧ G' = [hBox 1 m, hRow m, .row 5 1 32 (bCells (sha m))] := by
  have hr := rst_length m
  refine CallO.of_bodyW tab Tryz.func147 rfl (nt := Tryz.f147.ntmps) rfl (by kernel_rfl) ?_
  refine W.seqS (codeX_ok tab _ ?_)
  (conv => whnf)
  refine WS.seqTo tab (fun F H2 G => H.Le H2 ∧ F = [(0, .si (.ce (.ptr 0 0))), (3, .si (.ce (.self 2)))] ∧ G = [hBox 1 m, hRow m, .row 5 1 ((rst m).length + 1) (bCells (rst m ++ [128]))]) ?_ ?_
  · (conv => whnf)
    refine ⟨by decide, .inl ?_⟩
    intro g H2 hle hrd
    (conv => whnf)
    refine ⟨bCells_one _, fun h0 => ?_, fun h0 => ?_⟩
    · refine ⟨Nat.le_refl _, ⟨g, 0, rfl⟩, ?_⟩
      (conv => whnf)
      refine ⟨by decide, .inl ?_⟩
      intro g2 H3 hle2 hrd2
      (conv => whnf)
      refine ⟨[.int .u8 128], rfl, hrd2, fun u hu => by rcases List.mem_singleton.1 hu with rfl; rfl, fun h => (nomatch h), fun _ => ⟨rfl, [], rfl, hrd.mono hle2, by decide, ?_⟩⟩
      (conv => whnf)
      refine ⟨_, _, [0, 1, 2], ⟨hle.trans hle2, rfl, rfl⟩, ?_⟩
      refine ⟨rfl, ⟨rfl, rfl, ?_, trivial⟩, rfl, rfl, trivial⟩
      have hnil : rst m = [] := List.eq_nil_of_length_eq_zero h0
      rw [hnil]; rfl
    · refine ⟨rfl, [], rfl, hrd, by show _ * 2 ≤ _; omega, ?_⟩
      (conv => whnf)
      refine ⟨by decide, .inl ?_⟩
      intro g2 H3 hle2 hrd2
      (conv => whnf)
      refine ⟨[.int .u8 128], rfl, hrd2, fun u hu => by rcases List.mem_singleton.1 hu with rfl; rfl, ?_⟩
      (conv => whnf)
      refine ⟨by show _ * 2 ≤ _; omega, ?_⟩
      (conv => whnf)
      refine ⟨_, _, [0, 1, 3], ⟨hle.trans hle2, rfl, rfl⟩, ?_⟩
      refine ⟨rfl, ⟨rfl, rfl, ?_, trivial⟩, rfl, rfl, trivial⟩
      show SB.row 5 1 (0 + (rst m).length + 1) ([] ++ bCells (rst m) ++ [.int .u8 128]) = SB.row 5 1 ((rst m).length + 1) (bCells (rst m ++ [128]))
      rw [Nat.zero_add, List.nil_append, ← bCells_append]; rfl
  · rintro F H2 G hle ⟨hle', rfl, rfl⟩
    refine codeL.go tab ?_
    (conv => whnf)
    refine WS.loop (fun k F H3 G => ∃ z : Nat, z ≤ padN (rst m).length ∧ k = padN (rst m).length - z ∧ F = [(0, .si (.ce (.ptr 0 0))), (3, .si (.ce (.self 2)))] ∧ H.Le H3 ∧
        G = [hBox 1 m, hRow m, .row 5 1 ((rst m).length + 1 + z) (bCells (rst m ++ 128 :: List.replicate z 0))]) (padN (rst m).length + 1) ?_ ?_
    · refine ⟨padN (rst m).length, by omega, _, _, [0, 1, 2], ⟨0, by omega, rfl, rfl, hle', rfl⟩, ?_⟩
      exact ⟨rfl, ⟨rfl, rfl, rfl, trivial⟩, rfl, rfl, trivial⟩
    rintro k F H3 G hle3 ⟨z, hz, rfl, rfl, hle4, rfl⟩
    refine codeL.go tab ?_
    (conv => whnf)
    rw [show (((rst m).length + 1 + z : Nat) : Int).tmod 64 = (((rst m).length + 1 + z) % 64 : Nat) from by rw [Int.tmod_eq_emod_of_nonneg (by omega)]; omega]
    refine ⟨by decide, ?_⟩
    (conv => whnf)
    have hpn : padN (rst m).length = (119 - (rst m).length % 64) % 64 := rfl
    refine br.of (fun h1 => ?_) (fun h1 => ?_) <;> (conv => whnf)
    · simp only [bne_iff_ne, ne_eq] at h1
      refine ⟨by decide, .inl ?_⟩
      intro g H4 hle5 hrd
      (conv => whnf)
      refine ⟨_, rfl, hrd, one_int _ _, ?_⟩
      (conv => whnf)
      refine ⟨by show _ * 2 ≤ _; omega, ?_⟩
      (conv => whnf)
      refine ⟨padN (rst m).length - (z + 1), by omega, _, _, [0, 1, 3], ⟨z + 1, by omega, rfl, rfl, hle4.trans hle5, rfl⟩, ?_⟩
      refine ⟨rfl, ⟨rfl, rfl, ?_, trivial⟩, rfl, rfl, trivial⟩
      show SB.row 5 1 ((rst m).length + 1 + z + 1) (bCells (rst m ++ 128 :: List.replicate z 0) ++ [.int .u8 0]) = SB.row 5 1 ((rst m).length + 1 + (z + 1)) (bCells (rst m ++ 128 :: List.replicate (z + 1) 0))
      rw [bCells_snoc _ (0 : UInt8) (x := 0) rfl, List.replicate_succ', List.append_assoc]; rfl
    have hz2 : z = padN (rst m).length := by
      simp only [bne_eq_false_iff_eq] at h1
      omega
    subst hz2
    clear h1 hz
    generalize hT0 : rst m ++ 128 :: List.replicate (padN (rst m).length) 0 = T0
    have hT0l : T0.length = (rst m).length + 1 + padN (rst m).length := by rw [← hT0]; simp; omega
    rw [← hT0l]
    have hTl : tailOf (rst m) m.length = T0 ++ be8 (8 * m.length) := by unfold tailOf; rw [← hT0]; simp
    have hTm := tailOf_mod (rst m) m.length
    rw [hTl] at hTm
    have hb8 : (be8 (8 * m.length)).length = 8 := rfl
    refine WS.loop (fun k F H4 G => ∃ j : Nat, j ≤ 8 ∧ k = 8 - j ∧ F = [(0, .si (.ce (.ptr 0 0))), (3, .si (.ce (.self 2))), (4, pv (.int .i64 (56 - 8 * j)))] ∧ H.Le H4 ∧
        G = [hBox 1 m, hRow m, .row 5 1 (T0.length + j) (bCells (T0 ++ (be8 (8 * m.length)).take j))]) 9 ?_ ?_
    · refine ⟨8, by omega, _, _, [0, 1, 2], ⟨0, by omega, rfl, rfl, hle4, rfl⟩, ?_⟩
      refine ⟨rfl, ⟨rfl, rfl, ?_, trivial⟩, rfl, rfl, rfl, trivial⟩
      rw [List.take_zero, List.append_nil]; rfl
    rintro k F H4 G hle5 ⟨j, hj, rfl, rfl, hle6, rfl⟩
    refine codeL.go tab ?_
    (conv => whnf)
    refine br.of (fun h1 => ?_) (fun h1 => ?_) <;> (conv => whnf)
    · simp only [ge_iff_le, decide_eq_true_eq] at h1
      refine ⟨by omega, ?_⟩
      (conv => whnf)
      refine ⟨by decide, .inl ?_⟩
      intro g H5 hle7 hrd
      (conv => whnf)
      refine ⟨_, rfl, hrd, one_int _ _, ?_⟩
      (conv => whnf)
      refine ⟨by show _ * 2 ≤ _; omega, ?_⟩
      (conv => whnf)
      rw [wrap64 (x := 56 - 8 * (j : Int) - 8) (by omega) (by omega)]
      refine ⟨8 - (j + 1), by omega, _, _, [0, 1, 3], ⟨j + 1, by omega, rfl, rfl, hle6.trans hle7, rfl⟩, ?_⟩
      refine ⟨rfl, ⟨rfl, rfl, ?_, trivial⟩, rfl, rfl, ?_, trivial⟩
      · show SB.row 5 1 (T0.length + j + 1) (bCells (T0 ++ (be8 (8 * m.length)).take j) ++ [.int .u8 _]) = SB.row 5 1 (T0.length + (j + 1)) (bCells (T0 ++ (be8 (8 * m.length)).take (j + 1)))
        rw [take_get (be8_get (8 * m.length) j (by omega)), ← List.append_assoc, ← bCells_snoc _ _ (x := IntKind.u8.wrap ((IntKind.i64.wrap ((m.length : Int) * 8)).fdiv (2 ^ min (Int.toNat (56 - 8 * (j : Int))) IntKind.i64.bits))) ?_]
        · rfl
        · rw [wrap64 (by omega) (by omega), show (m.length : Int) * 8 = ((8 * m.length : Nat) : Int) by omega, show Int.toNat (56 - 8 * (j : Int)) = 56 - 8 * j by omega]
          exact sh8 _ _ _ (by show 56 - 8 * j ≤ 64; omega)
      · show pv _ = pv _
        congr 2; omega
    simp only [ge_iff_le, decide_eq_false_iff_not] at h1
    have hj8 : j = 8 := by omega
    subst hj8
    rw [show T0.length + 8 = (T0 ++ be8 (8 * m.length)).length by rw [List.length_append, hb8], show (be8 (8 * m.length)).take 8 = be8 (8 * m.length) from rfl]
    rw [show sha m = outB (blocks ((T0 ++ be8 (8 * m.length)).length / 64) (hst m) (T0 ++ be8 (8 * m.length))) by rw [← hTl]; exact sha_eq m]
    generalize T0 ++ be8 (8 * m.length) = all at *
    refine WS.loop (fun k F H5 G => ∃ i : Nat, i ≤ all.length / 64 ∧ k = all.length / 64 - i ∧ F = [(3, .si (.ce (.self 2))), (5, .si (.ce (.ptr 3 0)))] ∧ H.Le H5 ∧
        G = [hBox 1 m, hRow m, .row 5 1 (all.drop (64 * i)).length (bCells (all.drop (64 * i))), .box 225 (blocks i (hst m) all).cells]) (all.length / 64 + 1) ?_ ?_
    · refine ⟨all.length / 64, by omega, _, _, [0, 1, 2, 3], ⟨0, by omega, rfl, rfl, hle6, rfl⟩, ?_⟩
      exact ⟨rfl, ⟨rfl, rfl, rfl, rfl, trivial⟩, rfl, rfl, trivial⟩
    rintro k F H5 G hle7 ⟨i, hi, rfl, rfl, hle8, rfl⟩
    have hdl : (all.drop (64 * i)).length = all.length - 64 * i := List.length_drop
    refine codeL.go tab ?_
    (conv => whnf)
    refine br.of (fun h1 => ?_) (fun h1 => ?_) <;> (conv => whnf)
    · simp only [gt_iff_lt, decide_eq_true_eq] at h1
      refine ⟨⟨_, Tryz.func178, rfl, by kernel_rfl⟩, CallS.use (compress (blocks i (hst m) all) (all.drop (64 * i)).length (all.drop (64 * i)) (by omega) rfl H5) [2] rfl rfl ⟨rfl, trivial⟩ ?_⟩
      rintro e H' G' hle9 ⟨rfl, rfl, rfl⟩
      (conv => whnf)
      refine ⟨⟨by omega, by omega⟩, ?_⟩
      (conv => whnf)
      refine ⟨all.length / 64 - (i + 1), by omega, _, _, [0, 1, 4, 3], ⟨i + 1, by omega, rfl, rfl, hle8, rfl⟩, ?_⟩
      refine ⟨rfl, ⟨rfl, rfl, ?_, ?_, trivial⟩, rfl, rfl, trivial⟩
      · exact row_cut all i
      · rw [blocks_succ]; rfl
    simp only [gt_iff_lt, decide_eq_false_iff_not] at h1
    have hi2 : i = all.length / 64 := by omega
    subst hi2
    generalize blocks (all.length / 64) (hst m) all = S at *
    refine WS.nilRow 6 5 1 rfl ?_
    (conv => whnf)
    refine WS.loop (fun k F H6 G => ∃ j : Nat, j ≤ 8 ∧ k = 8 - j ∧ F = [(6, .si (.ce (.self 2))), (51, .si (.ag S.cells)), (52, pv (.int .i64 j))] ∧ H.Le H6 ∧
        G = [hBox 1 m, hRow m, .row 5 1 (4 * j) (bCells (outT S j))]) 9 ?_ ?_
    · refine ⟨8, by decide, _, _, [0, 1, 4], ⟨0, by decide, rfl, rfl, hle8, rfl⟩, ?_⟩
      exact ⟨rfl, ⟨rfl, rfl, rfl, trivial⟩, rfl, rfl, rfl, trivial⟩
    clear hTl hTm h1 hdl hi hr
    rintro k F H6 G hle9 ⟨j, hj, rfl, rfl, hle10, rfl⟩
    refine codeL.go tab ?_
    have hj9 : j = 0 ∨ j = 1 ∨ j = 2 ∨ j = 3 ∨ j = 4 ∨ j = 5 ∨ j = 6 ∨ j = 7 ∨ j = 8 := by omega
    rcases hj9 with rfl | rfl | rfl | rfl | rfl | rfl | rfl | rfl | rfl
    all_goals (conv => whnf)
    all_goals first
      | (show SE.ret _ = _ ∧ _ = _
         exact ⟨rfl, by rw [← outT_all]⟩)
      | (refine ⟨by decide, _, rfl, ?_⟩
         (conv => whnf)
         iterate 3 (refine ⟨by decide, ?_⟩; (conv => whnf))
         refine ⟨by decide, .inl ?_⟩
         intro g H7 hle11 hrd
         (conv => whnf)
         refine ⟨_, rfl, hrd, ones4 _ _ _ _ _, ?_⟩
         (conv => whnf)
         refine ⟨by decide, ?_⟩
         (conv => whnf)
         first | (refine ⟨7, by decide, _, _, [0, 1, 3], ⟨1, by decide, rfl, rfl, hle10.trans hle11, rfl⟩, ?_⟩; refine ⟨rfl, ⟨rfl, rfl, ?_, trivial⟩, rfl, rfl, rfl, trivial⟩) | (refine ⟨6, by decide, _, _, [0, 1, 3], ⟨2, by decide, rfl, rfl, hle10.trans hle11, rfl⟩, ?_⟩; refine ⟨rfl, ⟨rfl, rfl, ?_, trivial⟩, rfl, rfl, rfl, trivial⟩) | (refine ⟨5, by decide, _, _, [0, 1, 3], ⟨3, by decide, rfl, rfl, hle10.trans hle11, rfl⟩, ?_⟩; refine ⟨rfl, ⟨rfl, rfl, ?_, trivial⟩, rfl, rfl, rfl, trivial⟩) | (refine ⟨4, by decide, _, _, [0, 1, 3], ⟨4, by decide, rfl, rfl, hle10.trans hle11, rfl⟩, ?_⟩; refine ⟨rfl, ⟨rfl, rfl, ?_, trivial⟩, rfl, rfl, rfl, trivial⟩) | (refine ⟨3, by decide, _, _, [0, 1, 3], ⟨5, by decide, rfl, rfl, hle10.trans hle11, rfl⟩, ?_⟩; refine ⟨rfl, ⟨rfl, rfl, ?_, trivial⟩, rfl, rfl, rfl, trivial⟩) | (refine ⟨2, by decide, _, _, [0, 1, 3], ⟨6, by decide, rfl, rfl, hle10.trans hle11, rfl⟩, ?_⟩; refine ⟨rfl, ⟨rfl, rfl, ?_, trivial⟩, rfl, rfl, rfl, trivial⟩) | (refine ⟨1, by decide, _, _, [0, 1, 3], ⟨7, by decide, rfl, rfl, hle10.trans hle11, rfl⟩, ?_⟩; refine ⟨rfl, ⟨rfl, rfl, ?_, trivial⟩, rfl, rfl, rfl, trivial⟩) | (refine ⟨0, by decide, _, _, [0, 1, 3], ⟨8, by decide, rfl, rfl, hle10.trans hle11, rfl⟩, ?_⟩; refine ⟨rfl, ⟨rfl, rfl, ?_, trivial⟩, rfl, rfl, rfl, trivial⟩)
         exact row_out _ _ _ _)
end Go.Kx.Sha
namespace Go.Kx.Sha
open Go.Proofs Go.Kx
set_option maxRecDepth 20000

def PartAt (H : Hp) (v : Value) (p : List UInt8) : Prop := ∃ A n cap, v = .slice A n cap ∧ BytesAt H A n p
theorem PartAt.mono {H H' : Hp} (h : H.Le H') {v : Value} {p : List UInt8} (hp : PartAt H v p) : PartAt H' v p := let ⟨A, n, cap, e, hb⟩ := hp; ⟨A, n, cap, e, hb.mono h⟩
def PartsAt (H : Hp) (A : Option Addr) (n : Nat) (ps : List (List UInt8)) : Prop := ∃ vs : List Value, n = vs.length ∧ RdN H A 0 vs ∧ All2 (PartAt H) vs ps
theorem PartsAt.mono {H H' : Hp} (h : H.Le H') {A : Option Addr} {n : Nat} {ps : List (List UInt8)} (hp : PartsAt H A n ps) : PartsAt H' A n ps :=
 let ⟨vs, h1, h2, h3⟩ := hp; ⟨vs, h1, h2.mono h, h3.mono fun _ _ => PartAt.mono h⟩
theorem PartsAt.length {H : Hp} {A : Option Addr} {n : Nat} {ps : List (List UInt8)} (hp : PartsAt H A n ps) : n = ps.length := by
 obtain ⟨vs, h1, _, h3⟩ := hp; rw [h1, h3.length]
theorem PartsAt.addr {H : Hp} {A : Option Addr} {n : Nat} {ps : List (List UInt8)} (hp : PartsAt H A n ps) : ∃ b o, A = some ⟨b, o, none⟩ := by
 obtain ⟨vs, _, ⟨b, o, h1, _⟩, _⟩ := hp; exact ⟨b, o, h1⟩
theorem PartsAt.get {H : Hp} {A : Option Addr} {n : Nat} {ps : List (List UInt8)} (hp : PartsAt H A n ps) {i : Nat} {p : List UInt8} (hi : ps[i]? = some p) {off : Nat} (ho : off = i) : ∃ B m cap, RdC H A off (.slice B m cap) ∧ BytesAt H B m p := by
 obtain ⟨vs, _, ⟨b, o, h1, h2⟩, h3⟩ := hp
 obtain ⟨v, hv, B, m, cap, rfl, hb⟩ := h3.get' hi
 refine ⟨B, m, cap, ⟨b, o, h1, ?_⟩, hb⟩
 subst ho
 exact h2 _ _ hv
def upto (ps : List (List UInt8)) (i : Nat) : List UInt8 := (ps.take i).flatten
theorem upto_succ {ps : List (List UInt8)} {i : Nat} {p : List UInt8} (h : ps[i]? = some p) : upto ps (i + 1) = upto ps i ++ p := by
 obtain ⟨hi, rfl⟩ := List.getElem?_eq_some_iff.1 h
 unfold upto
 rw [List.take_succ_eq_append_getElem hi, List.flatten_append]; simp
theorem upto_le (ps : List (List UInt8)) (i : Nat) : (upto ps i).length ≤ ps.flatten.length := by
 have : ps.flatten = upto ps i ++ (ps.drop i).flatten := by unfold upto; rw [← List.flatten_append, List.take_append_drop]
 rw [this, List.length_append]; omega
theorem upto_all {ps : List (List UInt8)} {i : Nat} (h : ps.length ≤ i) : upto ps i = ps.flatten := by unfold upto; rw [List.take_of_length_le h]
theorem sumAll0 (ps : List (List UInt8)) (A : Option Addr) (n cap : Nat) (H : Hp) (hp : PartsAt H A n ps) (hl : ps.flatten.length ≤ 1000000000) (hn : n ≤ 1000000) :
  CallO Tryz.prog 146 [pv (.slice A n cap)] H [] fun e _ G' => e = .ret (.si (.ce (.self 0))) ∧ G' = [.row 5 1 32 (bCells (sha ps.flatten))] := by
 refine CallO.sub (K0 := fun e _ G' => e = .ret (.si (.ce (.self 2))) ∧ G' = [hBox 1 ps.flatten, hRow ps.flatten, .row 5 1 32 (bCells (sha ps.flatten))]) ?_ ?_
 ·refine CallO.of_body tab Tryz.func146 rfl (nt := Tryz.f146.ntmps) rfl (by kernel_rfl) ?_
  (conv => whnf)
  refine ⟨⟨_, Tryz.func143, rfl, by kernel_rfl⟩, CallS.use (new_ H) [] rfl rfl trivial ?_⟩
  rintro e H' G' hle ⟨rfl, rfl, rfl⟩
  (conv => whnf)
  have hpl := hp.length
  refine WS.loop (fun k F H2 G => ∃ i : Nat, i ≤ n ∧ k = n - i ∧ F = [(3, .si (.ce (.ptr 0 0))), (7, pv (.slice A n cap)), (8, pv (.int .i64 n)), (9, pv (.int .i64 i))] ∧ H'.Le H2 ∧ G = [hBox 1 (upto ps i), hRow (upto ps i)]) (n + 1) ?_ ?_
  ·refine ⟨n, by omega, _, _, [0, 1], ⟨0, by omega, rfl, rfl, .refl _, rfl⟩, ?_⟩
   exact ⟨rfl, ⟨rfl, rfl, trivial⟩, rfl, rfl, rfl, rfl, trivial⟩
  rintro k F H2 G hle2 ⟨i, hi, rfl, rfl, hle3, rfl⟩
  refine codeL.go tab ?_
  (conv => whnf)
  refine br.of (fun h1 => ?_) (fun h1 => ?_) <;> (conv => whnf)
  ·simp only [decide_eq_true_eq] at h1
   have hx : ps[i]? = some ps[i] := List.getElem?_eq_getElem (by omega)
   obtain ⟨B, m, c, hrd, hb⟩ := (hp.mono hle3).get hx rfl
   have hu := upto_succ hx
   have hul := upto_le ps (i + 1)
   rw [hu, List.length_append] at hul
   refine ⟨⟨by omega, h1⟩, hp.addr, ?_⟩
   (conv => whnf)
   refine ⟨.slice B m c, by simpa using hrd, ?_⟩
   (conv => whnf)
   refine ⟨⟨_, Tryz.func144, rfl, by kernel_rfl⟩, CallS.use (write (upto ps i) ps[i] B m c H2 hb (by rw [hb.1]; exact Nat.le_trans hul hl)) [0, 1] rfl rfl ⟨rfl, rfl, trivial⟩ ?_⟩
   rintro e H3 G' hle4 ⟨rfl, rfl, rfl⟩
   (conv => whnf)
   rw [wrap64 (x := (i : Int) + 1) (by omega) (by omega)]
   refine ⟨n - (i + 1), by omega, _, _, [0, 2], ⟨i + 1, by omega, rfl, rfl, hle3, rfl⟩, ?_⟩
   refine ⟨rfl, ⟨?_, ?_, trivial⟩, rfl, rfl, rfl, rfl, trivial⟩
   ·rw [hu]; rfl
   ·rw [hu]; rfl
  ·simp only [decide_eq_false_iff_not] at h1
   rw [upto_all (ps := ps) (i := i) (by omega)]
   refine ⟨⟨_, Tryz.func147, rfl, by kernel_rfl⟩, CallS.use (sum ps.flatten H2 hl) [0, 1] rfl rfl ⟨rfl, rfl, trivial⟩ ?_⟩
   rintro e H3 G' hle4 ⟨rfl, rfl⟩
   (conv => whnf)
   exact ⟨rfl, rfl⟩
 ·rintro e H' G' hle ⟨rfl, rfl⟩
  exact ⟨.si (.ce (.self 0)), [.row 5 1 32 (bCells (sha ps.flatten))], [2], rfl, ⟨rfl, trivial⟩, rfl, rfl, rfl⟩
theorem sumAll (ps : List (List UInt8)) (A : Option Addr) (n cap : Nat) (H : Hp) (hp : PartsAt H A n ps) (hl : ps.flatten.length ≤ 1000000000) (hn : n ≤ 1000000) :
  CallO Tryz.prog 146 [pv (.slice A n cap)] H [] fun e H' G' => RetB (sha ps.flatten) e H' ∧ G' = [] := CallO.bytes rfl (sumAll0 ps A n cap H hp hl hn)
end Go.Kx.Sha
namespace Go.Kx.Sha
open Go.Proofs Go.Kx
set_option maxRecDepth 20000
namespace MacB
def T : Tab := [(32, { k := TK.slice 5, agg := false, size := 1, bytes := 24, zero := [Z.sl] }), (197, { k := TK.slice 32, agg := false, size := 1, bytes := 24, zero := [Z.sl] }), (198, { k := TK.ptr 227, agg := false, size := 1, bytes := 8, zero := [Z.p] }), (5, { k := TK.int IntKind.u8, agg := false, size := 1, bytes := 1, zero := [Z.i IntKind.u8] }), (3, { k := TK.int IntKind.i64, agg := false, size := 1, bytes := 8, zero := [Z.i IntKind.i64] }), (4, { k := TK.bool, agg := false, size := 1, bytes := 1, zero := [Z.b] }), (227, { k := TK.st [(0, 225, 8), (8, 32, 1), (9, 3, 1)], agg := true, size := 10, bytes := 64, zero := [Z.i IntKind.u32, Z.i IntKind.u32, Z.i IntKind.u32, Z.i IntKind.u32, Z.i IntKind.u32, Z.i IntKind.u32, Z.i IntKind.u32, Z.i IntKind.u32, Z.sl, Z.i IntKind.i64] }), (225, { k := TK.ar 8 191 1, agg := true, size := 8, bytes := 32, zero := [Z.i IntKind.u32, Z.i IntKind.u32, Z.i IntKind.u32, Z.i IntKind.u32, Z.i IntKind.u32, Z.i IntKind.u32, Z.i IntKind.u32, Z.i IntKind.u32] }), (191, { k := TK.int IntKind.u32, agg := false, size := 1, bytes := 4, zero := [Z.i IntKind.u32] })]
set_option maxRecDepth 100000 in
theorem tab : TabOk Tryz.prog T := tabOk_mk (ts := [32, 197, 198, 5, 3, 4, 227, 225, 191]) (by kernel_rfl)
end MacB

theorem sumF (m : List UInt8) (H : Hp) (hl : m.length ≤ 1000000000) :
  CallO Tryz.prog 147 [.si (.ce (.ptr 0 0))] H [hBox 1 m, hRow m] fun e H' G' => RetB (sha m) e H' ∧ G' = [hBox 1 m, hRow m] := by
 refine CallO.sub (CallO.frz (K := fun e H' G' => (∃ A n cap, e = .ret (pv (.slice A n cap)) ∧ BytesAt H' A n (sha m)) ∧ G' = [hBox 1 m, hRow m, .dead]) (sum m H hl) ?_) ?_
 ·rintro e H' G' hle ⟨rfl, rfl⟩
  refine ⟨2, 5, 1, 32, bCells (sha m), rfl, fun h0 => (nomatch h0), fun x H2 hle2 hfr => ?_⟩
  obtain ⟨A, cap, rfl, hb⟩ := BytesAt.of_frozen (bs := sha m) rfl hfr
  exact ⟨⟨A, 32, cap, rfl, hb⟩, rfl⟩
 ·rintro e H' G' hle ⟨⟨A, n, cap, rfl, hb⟩, rfl⟩
  exact ⟨_, [hBox 1 m, hRow m], [0, 1], rfl, ⟨rfl, rfl, trivial⟩, rfl, ⟨A, n, cap, rfl, hb⟩, rfl⟩
def keyOf (key : List UInt8) : List UInt8 := if 64 < key.length then sha key else key
theorem keyOf_length (key : List UInt8) : (keyOf key).length ≤ 64 := by
 unfold keyOf; split
 ·rw [sha_length]; decide
 ·omega
def padBase (key : List UInt8) : List UInt8 := keyOf key ++ List.replicate (64 - (keyOf key).length) 0
theorem padBase_length (key : List UInt8) : (padBase key).length = 64 := by
 have := keyOf_length key
 unfold padBase; simp; omega
def padB (key : List UInt8) (x : UInt8) : List UInt8 := (padBase key).map (· ^^^ x)
def xorUp (base : List UInt8) (x : UInt8) (i : Nat) : List UInt8 := (base.take i).map (· ^^^ x) ++ base.drop i
theorem xor8 (a b : UInt8) : IntKind.u8.wrap ((BitVec.ofInt IntKind.u8.bits (a.toNat : Int) ^^^ BitVec.ofInt IntKind.u8.bits (b.toNat : Int)).toNat : Int) = ((a ^^^ b).toNat : Int) := by
 have h : ∀ c : UInt8, BitVec.ofInt IntKind.u8.bits (c.toNat : Int) = c.toBitVec := fun c => by
  show BitVec.ofInt 8 (c.toNat : Int) = c.toBitVec
  simp
 rw [h, h, wrap8]
 have := (a ^^^ b).toNat_lt
 show ((a ^^^ b).toNat : Int) % 256 = _
 omega
theorem splice_mid {α : Type} (P : List α) (c v : α) (Q : List α) {off : Nat} (ho : off = P.length) : splice (P ++ c :: Q) off [v] = P ++ v :: Q := by
 subst ho
 unfold splice
 rw [List.take_left, List.append_assoc]
 show P ++ ([v] ++ List.drop (P.length + 1) (P ++ c :: Q)) = _
 rw [List.drop_append]
 simp
theorem xorUp_mid {base : List UInt8} {x : UInt8} {i : Nat} {b : UInt8} (h : base[i]? = some b) : xorUp base x i = (base.take i).map (· ^^^ x) ++ b :: base.drop (i + 1) := by
 obtain ⟨hi, rfl⟩ := List.getElem?_eq_some_iff.1 h
 unfold xorUp
 rw [List.drop_eq_getElem_cons hi]
theorem xorUp_get {base : List UInt8} {x : UInt8} {i : Nat} {b : UInt8} (h : base[i]? = some b) {off : Nat} (ho : off = i) : (bCells (xorUp base x i))[off]? = some (.int .u8 b.toNat) := by
 subst ho
 have hi := (List.getElem?_eq_some_iff.1 h).1
 rw [xorUp_mid h]
 unfold bCells
 rw [List.getElem?_map, List.getElem?_append_right (by simp; omega)]
 simp [Nat.min_eq_left (Nat.le_of_lt hi)]
theorem xorUp_step {base : List UInt8} {x : UInt8} {i : Nat} {b : UInt8} (h : base[i]? = some b) {off : Nat} (ho : off = i) : splice (bCells (xorUp base x i)) off [.int .u8 ((b ^^^ x).toNat : Int)] = bCells (xorUp base x (i + 1)) := by
 subst ho
 have hi := (List.getElem?_eq_some_iff.1 h).1
 have e2 : xorUp base x (off + 1) = (base.take off).map (· ^^^ x) ++ (b ^^^ x) :: base.drop (off + 1) := by
  obtain ⟨hi, rfl⟩ := List.getElem?_eq_some_iff.1 h
  unfold xorUp
  rw [List.take_succ_eq_append_getElem hi, List.map_append, List.append_assoc]; rfl
 rw [xorUp_mid h, e2]
 unfold bCells
 rw [List.map_append, List.map_append, List.map_cons, List.map_cons]
 exact splice_mid _ _ _ _ (by simp [Nat.min_eq_left (Nat.le_of_lt hi)])
theorem xorUp_zero (base : List UInt8) (x : UInt8) : xorUp base x 0 = base := rfl
theorem xorUp_all {base : List UInt8} {x : UInt8} {i : Nat} (h : base.length ≤ i) : xorUp base x i = base.map (· ^^^ x) := by
 unfold xorUp; rw [List.take_of_length_le h, List.drop_of_length_le h, List.append_nil]
theorem xorUp_length (base : List UInt8) (x : UInt8) (i : Nat) : (xorUp base x i).length = base.length := by
 unfold xorUp; simp; omega
theorem zeros64 : (List.replicate (Int.toNat 64) (List.map Z.val [Z.i IntKind.u8])).flatten = bCells (List.replicate 64 0) := by kernel_rfl
theorem splice_zeros (k : List UInt8) : splice ((List.replicate (Int.toNat 64) (List.map Z.val [Z.i IntKind.u8])).flatten) 0 (bCells k) = bCells (k ++ List.replicate (64 - k.length) 0) := by
 rw [zeros64]
 unfold splice bCells
 rw [List.take_zero, List.nil_append, List.map_append, Nat.zero_add, ← List.map_drop, List.drop_replicate, List.length_map]
theorem pad0 (key : List UInt8) (x : UInt8) (A : Option Addr) (n cap : Nat) (H : Hp) (hk : BytesAt H A n key) (hn : n ≤ 1000000) :
  CallO Tryz.prog 145 [pv (.slice A n cap), pv (.int .u8 x.toNat)] H [] fun e _ G' => e = .ret (.si (.ce (.self 0))) ∧ G' = [.row 5 1 64 (bCells (padB key x))] := by
 refine CallO.of_bodyW MacB.tab Tryz.func145 rfl (nt := Tryz.f145.ntmps) rfl (by kernel_rfl) ?_
 refine W.seqS (codeX_ok MacB.tab _ ?_)
 (conv => whnf)
 refine WS.seqTo MacB.tab (fun F H2 G => ∃ B m c, F = [(0, pv (.slice B m c)), (1, pv (.int .u8 x.toNat))] ∧ BytesAt H2 B m (keyOf key) ∧ G = []) ?_ ?_
 ·(conv => whnf)
  refine br.of (fun h1 => ?_) (fun h1 => ?_) <;> (conv => whnf)
  ·simp only [gt_iff_lt, decide_eq_true_eq] at h1
   refine ⟨by decide, .inl ?_⟩
   intro g H2 hle hrd
   (conv => whnf)
   have hps : PartsAt H2 (some ⟨g, 0, none⟩) 1 [key] := ⟨_, rfl, hrd, .cons ⟨A, n, cap, rfl, hk.mono hle⟩ .nil⟩
   have hkl := hk.1
   refine ⟨⟨_, Tryz.func146, rfl, by kernel_rfl⟩, CallS.use (sumAll [key] _ 1 1 H2 hps (by simp; omega) (by decide)) [] rfl rfl trivial ?_⟩
   rintro e H3 G' hle2 ⟨⟨B, m, c, rfl, hb⟩, rfl⟩
   (conv => whnf)
   refine ⟨_, _, [], ⟨B, m, c, rfl, ?_, rfl⟩, rfl, trivial, rfl, rfl, trivial⟩
   have : [key].flatten = key := by simp
   rw [this] at hb
   unfold keyOf
   rw [if_pos (by omega)]
   exact hb
  ·simp only [gt_iff_lt, decide_eq_false_iff_not] at h1
   refine ⟨_, _, [], ⟨A, n, cap, rfl, ?_, rfl⟩, rfl, trivial, rfl, rfl, trivial⟩
   unfold keyOf
   rw [if_neg (by have := hk.1; omega)]
   exact hk
 ·rintro F H2 G hle ⟨B, m, c, rfl, hb, rfl⟩
  refine codeL.go MacB.tab ?_
  (conv => whnf)
  refine ⟨by decide, ?_⟩
  (conv => whnf)
  have hkl := keyOf_length key
  have hbl := padBase_length key
  obtain ⟨hm, hB, hrd⟩ := hb
  have key2 : ∀ ys, (B = none → ys = []) → (∀ a, B = some a → ys = bCells (keyOf key)) → SB.row 5 1 64 (splice ((List.replicate (Int.toNat 64) (List.map Z.val [Z.i IntKind.u8])).flatten) 0 ys) = SB.row 5 1 64 (bCells (xorUp (padBase key) x 0)) := by
   intro ys h1 h2
   rw [xorUp_zero]
   unfold padBase
   rw [← splice_zeros (keyOf key)]
   cases B with
   | none => rw [h1 rfl, hB rfl]; rfl
   | some a => rw [h2 a rfl]
  cases B with
  | none =>
   have hk0 : m = 0 := by rw [hm, hB rfl]; rfl
   subst hk0
   (conv => whnf)
   refine ⟨⟨by decide, by decide⟩, ?_⟩
   (conv => whnf)
   refine WS.loop (fun k F H3 G => ∃ i : Nat, i ≤ 64 ∧ k = 64 - i ∧ F = [(1, pv (.int .u8 x.toNat)), (5, .si (.ce (.self 0))), (18, pv (.int .i64 64)), (19, pv (.int .i64 i))] ∧ H2.Le H3 ∧ G = [.row 5 1 64 (bCells (xorUp (padBase key) x i))]) 65 ?_ ?_
   ·refine ⟨64, by omega, _, _, [0], ⟨0, by omega, rfl, rfl, .refl _, rfl⟩, ?_⟩
    exact ⟨rfl, ⟨key2 [] (fun _ => rfl) (fun a e => (nomatch e)), trivial⟩, rfl, rfl, rfl, rfl, trivial⟩
   rintro k F H3 G hle2 ⟨i, hi, rfl, rfl, hle3, rfl⟩
   refine codeL.go MacB.tab ?_
   (conv => whnf)
   refine br.of (fun h1 => ?_) (fun h1 => ?_) <;> (conv => whnf)
   ·simp only [decide_eq_true_eq] at h1
    have hi2 : i < 64 := by omega
    have hx : (padBase key)[i]? = some ((padBase key)[i]'(by omega)) := List.getElem?_eq_getElem (by omega)
    generalize (padBase key)[i]'(by omega) = b at hx
    refine ⟨⟨by omega, by omega⟩, ?_⟩
    (conv => whnf)
    refine ⟨_, xorUp_get hx (by simp), ?_⟩
    (conv => whnf)
    refine ⟨⟨by omega, by omega⟩, ?_⟩
    (conv => whnf)
    rw [xor8]
    refine ⟨by rw [bCells_length, xorUp_length, hbl]; show (i : Int).toNat * 1 + 1 ≤ 64; omega, ?_⟩
    (conv => whnf)
    rw [wrap64 (x := (i : Int) + 1) (by omega) (by omega)]
    refine ⟨64 - (i + 1), by omega, _, _, [0], ⟨i + 1, by omega, rfl, rfl, hle3, rfl⟩, ?_⟩
    refine ⟨rfl, ⟨?_, trivial⟩, rfl, rfl, rfl, rfl, trivial⟩
    rw [xorUp_step hx (by simp)]; rfl
   ·simp only [decide_eq_false_iff_not] at h1
    have hi2 : i = 64 := by omega
    subst hi2
    rw [xorUp_all (by omega)]
    exact ⟨rfl, rfl⟩
  | some a =>
   refine ⟨bCells (keyOf key), by rw [bCells_length, hm]; exact (Nat.mul_one _).symm, hrd a rfl, bCells_one _, ?_⟩
   (conv => whnf)
   refine ⟨⟨by rw [hm]; exact hkl, by decide⟩, ?_⟩
   (conv => whnf)
   refine WS.loop (fun k F H3 G => ∃ i : Nat, i ≤ 64 ∧ k = 64 - i ∧ F = [(1, pv (.int .u8 x.toNat)), (5, .si (.ce (.self 0))), (18, pv (.int .i64 64)), (19, pv (.int .i64 i))] ∧ H2.Le H3 ∧ G = [.row 5 1 64 (bCells (xorUp (padBase key) x i))]) 65 ?_ ?_
   ·refine ⟨64, by omega, _, _, [0], ⟨0, by omega, rfl, rfl, .refl _, rfl⟩, ?_⟩
    exact ⟨rfl, ⟨key2 _ (fun e => (nomatch e)) (fun a e => rfl), trivial⟩, rfl, rfl, rfl, rfl, trivial⟩
   rintro k F H3 G hle2 ⟨i, hi, rfl, rfl, hle3, rfl⟩
   refine codeL.go MacB.tab ?_
   (conv => whnf)
   refine br.of (fun h1 => ?_) (fun h1 => ?_) <;> (conv => whnf)
   ·simp only [decide_eq_true_eq] at h1
    have hi2 : i < 64 := by omega
    have hx : (padBase key)[i]? = some ((padBase key)[i]'(by omega)) := List.getElem?_eq_getElem (by omega)
    generalize (padBase key)[i]'(by omega) = b at hx
    refine ⟨⟨by omega, by omega⟩, ?_⟩
    (conv => whnf)
    refine ⟨_, xorUp_get hx (by simp), ?_⟩
    (conv => whnf)
    refine ⟨⟨by omega, by omega⟩, ?_⟩
    (conv => whnf)
    rw [xor8]
    refine ⟨by rw [bCells_length, xorUp_length, hbl]; show (i : Int).toNat * 1 + 1 ≤ 64; omega, ?_⟩
    (conv => whnf)
    rw [wrap64 (x := (i : Int) + 1) (by omega) (by omega)]
    refine ⟨64 - (i + 1), by omega, _, _, [0], ⟨i + 1, by omega, rfl, rfl, hle3, rfl⟩, ?_⟩
    refine ⟨rfl, ⟨?_, trivial⟩, rfl, rfl, rfl, rfl, trivial⟩
    rw [xorUp_step hx (by simp)]; rfl
   ·simp only [decide_eq_false_iff_not] at h1
    have hi2 : i = 64 := by omega
    subst hi2
    rw [xorUp_all (by omega)]
    exact ⟨rfl, rfl⟩
end Go.Kx.Sha
namespace Go.Kx.Sha
open Go.Proofs Go.Kx
set_option maxRecDepth 20000
open MacB in
theorem padF (key : List UInt8) (x : UInt8) (A : Option Addr) (n cap : Nat) (H : Hp) (hk : BytesAt H A n key) (hn : n ≤ 1000000) :
  CallO Tryz.prog 145 [pv (.slice A n cap), pv (.int .u8 x.toNat)] H [] fun e H' G' => RetB (padB key x) e H' ∧ G' = [] :=
 CallO.bytes (by unfold padB; rw [List.length_map, padBase_length]) (pad0 key x A n cap H hk hn)
theorem padB_length (key : List UInt8) (x : UInt8) : (padB key x).length = 64 := by unfold padB; rw [List.length_map, padBase_length]
def hmac (key msg : List UInt8) : List UInt8 := sha (padB key 0x5c ++ sha (padB key 0x36 ++ msg))
theorem code (key : List UInt8) (ps : List (List UInt8)) (A B : Option Addr) (n cap m c : Nat) (H : Hp) (hk : BytesAt H A n key) (hp : PartsAt H B m ps) (hn : n ≤ 1000000) (hm : m ≤ 1000000) (hl : ps.flatten.length ≤ 100000000) :
  CallO Tryz.prog 97 [pv (.slice A n cap), pv (.slice B m c)] H [] fun e H' G' => RetB (hmac key ps.flatten) e H' ∧ G' = [] := by
 refine CallO.of_body MacB.tab Tryz.func97 rfl (nt := Tryz.f97.ntmps) rfl (by kernel_rfl) ?_
 (conv => whnf)
 refine ⟨⟨_, Tryz.func143, rfl, by kernel_rfl⟩, CallS.use (new_ H) [] rfl rfl trivial ?_⟩
 rintro e H' G' hle ⟨rfl, rfl, rfl⟩
 (conv => whnf)
 refine ⟨⟨_, Tryz.func145, rfl, by kernel_rfl⟩, CallS.use (padF key 0x36 A n cap H' hk hn) [] rfl rfl trivial ?_⟩
 rintro e H2 G' hle2 ⟨⟨A2, n2, c2, rfl, hb2⟩, rfl⟩
 (conv => whnf)
 refine ⟨⟨_, Tryz.func144, rfl, by kernel_rfl⟩, CallS.use (write [] (padB key 0x36) A2 n2 c2 H2 hb2 (by rw [hb2.1, padB_length]; decide)) [0, 1] rfl rfl ⟨rfl, rfl, trivial⟩ ?_⟩
 rintro e H3 G' hle3 ⟨rfl, rfl, rfl⟩
 (conv => whnf)
 rw [List.nil_append]
 have hpl := hp.length
 have hpd := padB_length key 0x36
 refine WS.loop (fun k F H4 G => ∃ i : Nat, i ≤ m ∧ k = m - i ∧ F = [(0, pv (.slice A n cap)), (5, .si (.ce (.ptr 0 0))), (13, pv (.slice B m c)), (14, pv (.int .i64 m)), (15, pv (.int .i64 i))] ∧ H'.Le H4 ∧ G = [hBox 1 (padB key 0x36 ++ upto ps i), hRow (padB key 0x36 ++ upto ps i)]) (m + 1) ?_ ?_
 ·refine ⟨m, by omega, _, _, [0, 2], ⟨0, by omega, rfl, rfl, hle2, rfl⟩, ?_⟩
  exact ⟨rfl, ⟨by show _ = hBox 2 _; rw [show upto ps 0 = [] from rfl, List.append_nil]; rfl, by rw [show upto ps 0 = [] from rfl, List.append_nil]; rfl, trivial⟩, rfl, rfl, rfl, rfl, rfl, trivial⟩
 rintro k F H4 G hle4 ⟨i, hi, rfl, rfl, hle5, rfl⟩
 refine codeL.go MacB.tab ?_
 (conv => whnf)
 refine br.of (fun h1 => ?_) (fun h1 => ?_) <;> (conv => whnf)
 ·simp only [decide_eq_true_eq] at h1
  have hx : ps[i]? = some ps[i] := List.getElem?_eq_getElem (by omega)
  obtain ⟨C, q, r, hrd, hb⟩ := (hp.mono hle5).get hx rfl
  have hu := upto_succ hx
  have hul := upto_le ps (i + 1)
  rw [hu, List.length_append] at hul
  refine ⟨⟨by omega, h1⟩, hp.addr, ?_⟩
  (conv => whnf)
  refine ⟨.slice C q r, by simpa using hrd, ?_⟩
  (conv => whnf)
  refine ⟨⟨_, Tryz.func144, rfl, by kernel_rfl⟩, CallS.use (write (padB key 0x36 ++ upto ps i) ps[i] C q r H4 hb (by rw [hb.1, List.length_append, hpd]; omega)) [0, 1] rfl rfl ⟨rfl, rfl, trivial⟩ ?_⟩
  rintro e H5 G' hle6 ⟨rfl, rfl, rfl⟩
  (conv => whnf)
  rw [wrap64 (x := (i : Int) + 1) (by omega) (by omega)]
  refine ⟨m - (i + 1), by omega, _, _, [0, 2], ⟨i + 1, by omega, rfl, rfl, hle5, rfl⟩, ?_⟩
  refine ⟨rfl, ⟨?_, ?_, trivial⟩, rfl, rfl, rfl, rfl, rfl, trivial⟩
  ·rw [hu, ← List.append_assoc]; rfl
  ·rw [hu, ← List.append_assoc]; rfl
 ·simp only [decide_eq_false_iff_not] at h1
  rw [upto_all (ps := ps) (i := i) (by omega)]
  refine ⟨⟨_, Tryz.func145, rfl, by kernel_rfl⟩, CallS.use (padF key 0x5c A n cap H4 (hk.mono hle5) hn) [] rfl rfl trivial ?_⟩
  rintro e H5 G' hle6 ⟨⟨A3, n3, c3, rfl, hb3⟩, rfl⟩
  (conv => whnf)
  refine ⟨⟨_, Tryz.func147, rfl, by kernel_rfl⟩, CallS.use (sumF (padB key 0x36 ++ ps.flatten) H5 (by rw [List.length_append, hpd]; omega)) [0, 1] rfl rfl ⟨rfl, rfl, trivial⟩ ?_⟩
  rintro e H6 G' hle7 ⟨⟨A4, n4, c4, rfl, hb4⟩, rfl⟩
  (conv => whnf)
  refine ⟨by decide, .inl ?_⟩
  intro g H7 hle8 hrd
  (conv => whnf)
  have hps : PartsAt H7 (some ⟨g, 0, none⟩) 2 [padB key 0x5c, sha (padB key 0x36 ++ ps.flatten)] := ⟨_, rfl, hrd, .cons ⟨A3, n3, c3, rfl, hb3.mono (hle7.trans hle8)⟩ (.cons ⟨A4, n4, c4, rfl, hb4.mono hle8⟩ .nil)⟩
  refine ⟨⟨_, Tryz.func146, rfl, by kernel_rfl⟩, CallS.use (sumAll _ _ 2 2 H7 hps (by simp [padB_length, sha_length]) (by decide)) [] rfl rfl trivial ?_⟩
  rintro e H8 G' hle9 ⟨⟨A5, n5, c5, rfl, hb5⟩, rfl⟩
  (conv => whnf)
  have e0 : [padB key 0x5c, sha (padB key 0x36 ++ ps.flatten)].flatten = padB key 0x5c ++ sha (padB key 0x36 ++ ps.flatten) := by simp
  rw [e0] at hb5
  exact ⟨⟨A5, n5, c5, rfl, hb5⟩, rfl⟩
end Go.Kx.Sha
namespace Go.Kx.Jw
open Go.Proofs Go.Kx Go.RowKit Go.Kx.Js Go.Kx.Pr Go.Kx.Rt Go.Kx.Ob Go.Kx.Wo Go.Kx.Ro Go.Kx.Pa Go.Kx.En Go.Kx.Cl Go.Kx.Sha
set_option maxRecDepth 20000
set_option linter.unusedSimpArgs false
abbrev sAlg := (⟨#[97, 108, 103]⟩ : ByteArray)
abbrev sKid := (⟨#[107, 105, 100]⟩ : ByteArray)
abbrev sTyp := (⟨#[116, 121, 112]⟩ : ByteArray)
abbrev sCrit := (⟨#[99, 114, 105, 116]⟩ : ByteArray)
abbrev sHs := (⟨#[72, 83, 50, 53, 54]⟩ : ByteArray)
def headJ (kid typ : ByteArray) : J := objJ [(sAlg, strJ sHs), (sKid, strJ kid), (sTyp, strJ typ)]
def signedP (kid typ : ByteArray) (payload : List UInt8) : List UInt8 := encP (wrJ (headJ kid typ)) ++ 46 :: encP payload
def tokenP (kid typ : ByteArray) (payload key : List UInt8) : List UInt8 := signedP kid typ payload ++ 46 :: encP (hmac key (signedP kid typ payload))
def signP (kid typ : ByteArray) (payload key : List UInt8) : ByteArray × Int :=
 if (wordP 40 kid && wordP 40 typ) = false then (⟨#[]⟩, 10) else if payload.length > 16384 then (⟨#[]⟩, 11) else if key.length < 16 then (⟨#[]⟩, 41) else (⟨(tokenP kid typ payload key).toArray⟩, 0)
structure Tok where
 kid : ByteArray
 typ : ByteArray
 payload : List UInt8
 signed : List UInt8
 tag : List UInt8
def wordJ (j : J) (s : ByteArray) : Option ByteArray := match j.get s with
 | some m => if m.kind = 4 ∧ wordP 40 m.text = true then some m.text else none
 | none => none
def methodP (j : J) : Bool := (match j.get sAlg with
 | some m => (m.kind == 4) && strEq m.text sHs
 | none => false) && (j.get sCrit).isNone
def tok3 (a b c : List UInt8) : Except Int Tok :=
 match decP ⟨a.toArray⟩, decP ⟨b.toArray⟩, decP ⟨c.toArray⟩ with
 | some h, some p, some t =>
  if (parseP h 4).2.1 = 0 ∧ (parseP h 4).1.kind = 6 then
   match wordJ (parseP h 4).1 sKid, wordJ (parseP h 4).1 sTyp with
   | some kid, some typ => if p.length ≤ 16384 ∧ t.length = 32 then (if methodP (parseP h 4).1 then .ok ⟨kid, typ, p, a ++ 46 :: b, t⟩ else .error 42) else .error 10
   | _, _ => .error 10
  else .error 10
 | _, _, _ => .error 10
def partsP (s : ByteArray) : Except Int Tok :=
 if s.size > 49152 then .error 11 else
 match partsL 46 [] s.data.toList with
 | [a, b, c] => tok3 a b c
 | _ => .error 10
def verifyP (s : ByteArray) (key : List UInt8) : Except Int Tok :=
 match partsP s with
 | .error e => .error e
 | .ok t => if key.length < 16 then .error 41 else if t.tag = hmac key t.signed then .ok t else .error 40
theorem partsL_last (c : UInt8) : ∀ (l cur : List UInt8), c ∉ l → partsL c cur l = [cur ++ l]
 | [], cur, _ => by simp [partsL]
 | x :: r, cur, h => by
  simp only [List.mem_cons, not_or] at h
  unfold partsL
  rw [if_neg (Ne.symm h.1), partsL_last c r _ h.2]
  simp
theorem partsL_more (c : UInt8) (r : List UInt8) : ∀ (l cur : List UInt8), c ∉ l → partsL c cur (l ++ c :: r) = (cur ++ l) :: partsL c [] r
 | [], cur, _ => by
  show partsL c cur (c :: r) = _
  rw [partsL, if_pos rfl, List.append_nil]
 | x :: l, cur, h => by
  simp only [List.mem_cons, not_or] at h
  show partsL c cur (x :: (l ++ c :: r)) = _
  rw [partsL, if_neg (Ne.symm h.1), partsL_more c r l _ h.2]
  simp
theorem encP_len : ∀ (k : Nat) (l : List UInt8), l.length < k → (encP l).length ≤ 2 * l.length
 | 0, l, h => by omega
 | k + 1, [], _ => by simp [encP_nil]
 | k + 1, [a], _ => by rw [encP_1]; simp [four]
 | k + 1, [a, b], _ => by rw [encP_2]; simp [four]
 | k + 1, a :: b :: c :: l, h => by
  have := encP_len k l (by simp only [List.length_cons] at h; omega)
  rw [encP_3]
  simp only [List.length_append, List.length_cons, four, List.length_nil]
  omega
theorem esc_len : ∀ l : List UInt8, (l.flatMap escB).length ≤ 6 * l.length
 | [] => by simp
 | c :: l => by
  have := esc_len l
  have h1 : ∀ n : Fin 256, (escB (UInt8.ofNat n.val)).length ≤ 6 := by decide +kernel
  have h2 := h1 ⟨c.toNat, c.toNat_lt⟩
  simp only [UInt8.ofNat_toNat] at h2
  simp only [List.flatMap_cons, List.length_append, List.length_cons]
  omega
theorem quote_len (l : List UInt8) : (quoteB l).length ≤ 6 * l.length + 2 := by
 have := esc_len l
 unfold quoteB
 simp only [List.length_append, List.length_cons, List.length_nil]
 omega
theorem wr_str (s : ByteArray) : wrJ (strJ s) = quoteB s.data.toList := by unfold strJ; simp [wrJ]
theorem word_size {m : Nat} {s : ByteArray} (h : wordP m s = true) : s.size ≤ m ∧ toldP s = true ∧ s ≠ ⟨#[]⟩ := by
 unfold Wo.wordP at h
 simp only [Bool.and_eq_true, decide_eq_true_eq, Bool.not_eq_true', strEq_false] at h
 exact ⟨h.2.1, h.2.2, h.1⟩
theorem word_told {m : Nat} {s : ByteArray} (h : wordP m s = true) : Ro.Told s.data.toList := (toldP_iff s).1 (word_size h).2.1
theorem dl (s : ByteArray) : s.data.toList.length = s.size := by rw [Array.length_toList]; rfl
theorem head_wr (kid typ : ByteArray) : wrJ (headJ kid typ) = [123] ++ quoteB sAlg.data.toList ++ [58] ++ quoteB sHs.data.toList ++ [44] ++ quoteB sKid.data.toList ++ [58] ++ quoteB kid.data.toList ++ [44] ++ quoteB sTyp.data.toList ++ [58] ++ quoteB typ.data.toList ++ [125] := by
 unfold headJ objJ
 simp only [wrJ, wrMs, wr_str]
 simp [List.append_assoc]
theorem head_told {kid typ : ByteArray} (h1 : wordP 40 kid = true) (h2 : wordP 40 typ = true) : Ro.Told (wrJ (headJ kid typ)) := by
 have a1 := (word_told h1).quote
 have a2 := (word_told h2).quote
 rw [head_wr]
 have asc : ∀ l : List UInt8, l.all (fun c => decide (c.toNat < 128)) = true → Ro.Told l := fun l h => .ascii h
 refine Ro.Told.append (Ro.Told.append (Ro.Told.append (Ro.Told.append (Ro.Told.append (Ro.Told.append ?_ a1) (asc _ (by decide))) (asc _ (by decide +kernel))) (asc _ (by decide))) a2) (asc _ (by decide))
 exact asc _ (by decide +kernel)
theorem head_len {kid typ : ByteArray} (h1 : wordP 40 kid = true) (h2 : wordP 40 typ = true) : (wrJ (headJ kid typ)).length ≤ 600 := by
 have b1 := quote_len kid.data.toList
 have b2 := quote_len typ.data.toList
 rw [dl] at b1 b2
 have c1 := (word_size h1).1
 have c2 := (word_size h2).1
 have e1 : (quoteB sAlg.data.toList).length = 5 := by decide +kernel
 have e2 : (quoteB sHs.data.toList).length = 7 := by decide +kernel
 have e3 : (quoteB sKid.data.toList).length = 5 := by decide +kernel
 have e4 : (quoteB sTyp.data.toList).length = 5 := by decide +kernel
 rw [head_wr]
 simp only [List.length_append, List.length_cons, List.length_nil, e1, e2, e3, e4]
 omega
theorem head_pl (kid typ : ByteArray) : Pl 4 (headJ kid typ) := by
 refine .obj _ (fun i s j h => ?_) ?_
 ·rcases i with _ | _ | _ | i
  ·simp at h; obtain ⟨_, rfl⟩ := h; exact .str _
  ·simp at h; obtain ⟨_, rfl⟩ := h; exact .str _
  ·simp at h; obtain ⟨_, rfl⟩ := h; exact .str _
  ·simp at h
 ·show ([sAlg, sKid, sTyp] : List ByteArray).Nodup
  decide
theorem head_parse {kid typ : ByteArray} (h1 : wordP 40 kid = true) (h2 : wordP 40 typ = true) : parseP (wrJ (headJ kid typ)) 4 = (headJ kid typ, 0, 0) :=
 parse_read (head_pl kid typ) (by decide) (by decide) (by have := head_len h1 h2; omega) (head_told h1 h2)
theorem token_read {kid typ : ByteArray} {payload key : List UInt8} (h1 : wordP 40 kid = true) (h2 : wordP 40 typ = true) (h3 : payload.length ≤ 16384) :
  partsP ⟨(tokenP kid typ payload key).toArray⟩ = .ok ⟨kid, typ, payload, signedP kid typ payload, hmac key (signedP kid typ payload)⟩ := by
 have l1 := encP_len _ (wrJ (headJ kid typ)) (Nat.lt_succ_self _)
 have l2 := encP_len _ payload (Nat.lt_succ_self _)
 have l3 := encP_len _ (hmac key (signedP kid typ payload)) (Nat.lt_succ_self _)
 have l4 : (hmac key (signedP kid typ payload)).length = 32 := sha_length _
 have l5 := head_len h1 h2
 have hsz : (⟨(tokenP kid typ payload key).toArray⟩ : ByteArray).size ≤ 49152 := by
  show (tokenP kid typ payload key).toArray.size ≤ _
  rw [List.size_toArray]
  unfold tokenP
  rw [List.length_append, List.length_cons]
  have : (signedP kid typ payload).length = (encP (wrJ (headJ kid typ))).length + ((encP payload).length + 1) := by unfold signedP; rw [List.length_append, List.length_cons]
  omega
 unfold partsP
 rw [if_neg (by omega)]
 have hp : partsL 46 [] (⟨(tokenP kid typ payload key).toArray⟩ : ByteArray).data.toList = [encP (wrJ (headJ kid typ)), encP payload, encP (hmac key (signedP kid typ payload))] := by
  show partsL 46 [] (tokenP kid typ payload key) = _
  unfold tokenP
  conv => lhs; unfold signedP
  rw [List.append_assoc, List.cons_append, partsL_more 46 _ _ _ (encP_dot _ _ (Nat.lt_succ_self _)), partsL_more 46 _ _ _ (encP_dot _ _ (Nat.lt_succ_self _)), partsL_last 46 _ _ (encP_dot _ _ (Nat.lt_succ_self _))]
  rfl
 rw [hp]
 show tok3 _ _ _ = _
 unfold tok3
 rw [decP_encP, decP_encP, decP_encP]
 simp only []
 rw [head_parse h1 h2, if_pos ⟨rfl, rfl⟩]
 have g1 : (headJ kid typ).get sKid = some (strJ kid) := rfl
 have g2 : (headJ kid typ).get sTyp = some (strJ typ) := rfl
 have g3 : (headJ kid typ).get sAlg = some (strJ sHs) := rfl
 have g4 : (headJ kid typ).get sCrit = none := rfl
 have w1 : wordJ (headJ kid typ) sKid = some kid := by unfold wordJ; rw [g1]; exact if_pos ⟨rfl, h1⟩
 have w2 : wordJ (headJ kid typ) sTyp = some typ := by unfold wordJ; rw [g2]; exact if_pos ⟨rfl, h2⟩
 have hm : methodP (headJ kid typ) = true := by unfold methodP; rw [g3, g4]; rfl
 simp only [w1, w2, hm]
 rw [if_pos ⟨h3, l4⟩]
 rfl
theorem sign_verify {kid typ : ByteArray} {payload key : List UInt8} {s : ByteArray} (h : signP kid typ payload key = (s, 0)) :
  verifyP s key = .ok ⟨kid, typ, payload, signedP kid typ payload, hmac key (signedP kid typ payload)⟩ := by
 unfold signP at h
 split at h
 ·cases h
 split at h
 ·cases h
 split at h
 ·cases h
 rename_i h1 h2 h3
 simp only [Prod.mk.injEq, and_true] at h
 subst h
 simp only [Bool.not_eq_false, Bool.and_eq_true] at h1
 unfold verifyP
 rw [token_read h1.1 h1.2 (by omega)]
 simp only []
 rw [if_neg (by omega), if_pos trivial]
end Go.Kx.Jw
namespace Go.Kx.Ro
open Go.Proofs Go.Kx Go.RowKit Go.Kx.Js Go.Kx.Pr Go.Kx.Rt
set_option maxRecDepth 20000
set_option linter.unusedSimpArgs false
mutual
def szJ : J → Nat
 | .mk _ _ t js ms => t.size + szJs js + szMs ms
def szJs : List J → Nat
 | [] => 0
 | j :: r => szJ j + 1 + szJs r
def szMs : List (ByteArray × J) → Nat
 | [] => 0
 | (s, j) :: r => s.size + szJ j + 1 + szMs r
end
theorem szJs_snoc (j : J) : ∀ js : List J, szJs (js ++ [j]) = szJs js + (szJ j + 1)
 | [] => by simp [szJs]
 | a :: r => by simp only [List.cons_append, szJs, szJs_snoc j r]; omega
theorem szMs_snoc (s : ByteArray) (j : J) : ∀ ms : List (ByteArray × J), szMs (ms ++ [(s, j)]) = szMs ms + (s.size + szJ j + 1)
 | [] => by simp [szMs]
 | (t, a) :: r => by simp only [List.cons_append, szMs, szMs_snoc s j r]; omega
theorem szJs_len : ∀ js : List J, js.length ≤ szJs js
 | [] => by simp
 | a :: r => by have := szJs_len r; simp only [List.length_cons, szJs]; omega
theorem szMs_len : ∀ ms : List (ByteArray × J), ms.length ≤ szMs ms
 | [] => by simp
 | (t, a) :: r => by have := szMs_len r; simp only [List.length_cons, szMs]; omega
mutual
theorem sm_of : ∀ j : J, szJ j ≤ 190000 → smJ j
 | .mk _ _ t js ms, h => by
  simp only [szJ] at h
  have := szJs_len js
  have := szMs_len ms
  exact ⟨by omega, by omega, by omega, sms_of js (by omega), smms_of ms (by omega)⟩
theorem sms_of : ∀ js : List J, szJs js ≤ 190000 → smJs js
 | [], _ => trivial
 | j :: r, h => by simp only [szJs] at h; exact ⟨sm_of j (by omega), sms_of r (by omega)⟩
theorem smms_of : ∀ ms : List (ByteArray × J), szMs ms ≤ 190000 → smMs ms
 | [], _ => trivial
 | (s, j) :: r, h => by simp only [szMs] at h; exact ⟨by omega, sm_of j (by omega), smms_of r (by omega)⟩
end
theorem esc6 : ∀ l : List UInt8, (l.flatMap escB).length ≤ 6 * l.length
 | [] => by simp
 | c :: l => by
  have := esc6 l
  have h1 : ∀ n : Fin 256, (escB (UInt8.ofNat n.val)).length ≤ 6 := by decide +kernel
  have h2 := h1 ⟨c.toNat, c.toNat_lt⟩
  simp only [UInt8.ofNat_toNat] at h2
  simp only [List.flatMap_cons, List.length_append, List.length_cons]
  omega
theorem quote6 (s : ByteArray) : (quoteB s.data.toList).length ≤ 6 * s.size + 2 := by
 have := esc6 s.data.toList
 have h : s.data.toList.length = s.size := by rw [Array.length_toList]; rfl
 unfold quoteB
 simp only [List.length_append, List.length_cons, List.length_nil]
 omega
mutual
theorem wr_of : ∀ j : J, (wrJ j).length ≤ 10 * szJ j + 6
 | .mk k y t js ms => by
  have h1 := wrs_of js true
  have h2 := wrms_of ms true
  have h3 := quote6 t
  have h : t.data.toList.length = t.size := by rw [Array.length_toList]; rfl
  simp only [wrJ, szJ]
  split
  ·simp
  split
  ·split <;> simp
  split
  ·omega
  split
  ·omega
  split
  ·simp only [List.length_append, List.length_cons, List.length_nil]; omega
  split
  ·simp only [List.length_append, List.length_cons, List.length_nil]; omega
  ·simp
theorem wrs_of : ∀ (js : List J) (f : Bool), (wrJs f js).length ≤ 10 * szJs js
 | [], f => by simp [wrJs]
 | j :: r, f => by
  have h1 := wr_of j
  have h2 := wrs_of r false
  have h3 : (if f then ([] : List UInt8) else [44]).length ≤ 1 := by cases f <;> simp
  simp only [wrJs, szJs, List.length_append]
  omega
theorem wrms_of : ∀ (ms : List (ByteArray × J)) (f : Bool), (wrMs f ms).length ≤ 10 * szMs ms
 | [], f => by simp [wrMs]
 | (s, j) :: r, f => by
  have h1 := wr_of j
  have h2 := wrms_of r false
  have h4 := quote6 s
  have h3 : (if f then ([] : List UInt8) else [44]).length ≤ 1 := by cases f <;> simp
  simp only [wrMs, szMs, List.length_append, List.length_cons, List.length_nil]
  omega
end
theorem tk_len {c : UInt8} {l r : List UInt8} (h : tk c l = some r) : l.length = r.length + 1 := by rw [tk_some h]; rfl
theorem must_len {c : UInt8} {l r : List UInt8} {u : Unit} (h : mustP c l = .ok u r) : l.length = r.length + 1 := by rw [mustP_ok h]; rfl
theorem strP_sz : ∀ (m : Nat) (b l : List UInt8) {x r : List UInt8}, strP m b l = .ok x r → x.length + 4 * r.length + 4 ≤ b.length + 4 * l.length
 | 0, b, l, x, r, h => by cases h
 | m + 1, b, l, x, r, h => by
  cases h34 : tk 34 l with
  | some r2 =>
   rw [strP_end h34] at h
   injection h with h1 h
   subst h h1
   have := tk_len h34
   omega
  | none =>
   cases h92 : tk 92 l with
   | some r2 =>
    rw [strP_esc h34 h92] at h
    obtain ⟨y, r3, h1, h⟩ := bind_ok h
    have i1 := strP_sz m _ _ h
    obtain ⟨i2, i3⟩ := escP_sfx h1
    have i4 := i2.le
    have i5 := tk_len h92
    rw [List.length_append] at i1
    omega
   | none =>
    by_cases hc : (pk l).toNat < 32
    ·rw [strP_ctl h34 h92 hc] at h; cases h
    ·rw [strP_chr h34 h92 hc] at h
     have i1 := strP_sz m _ _ h
     cases l with
     | nil => exact absurd (show (pk []).toNat < 32 by decide) hc
     | cons c t =>
      simp only [List.length_append, List.length_cons, List.length_nil, List.tail_cons] at i1 ⊢
      omega
theorem textP_sz {l r : List UInt8} {t : ByteArray} (h : textP l = .ok t r) : t.size + 4 * r.length + 8 ≤ 4 * l.length := by
 unfold textP at h
 obtain ⟨_, r1, h1, h⟩ := bind_ok h
 obtain ⟨b, r2, h2, h⟩ := bind_ok h
 injection h with h3 h
 subst h h3
 have i1 := must_len h1
 have i2 := strP_sz _ _ _ h2
 have e : (⟨b.toArray⟩ : ByteArray).size = b.length := List.size_toArray
 rw [e]
 simp only [List.length_nil] at i2
 omega
theorem numberP_sz {l r : List UInt8} {t : ByteArray} (h : numberP l = .ok t r) : t.size + 4 * r.length ≤ 4 * l.length := by
 have hs := (numberP_sfx h).le
 unfold numberP at h
 obtain ⟨_, r1, h1, h⟩ := bind_ok h
 obtain ⟨_, r2, h2, h⟩ := bind_ok h
 obtain ⟨_, r3, h3, h⟩ := bind_ok h
 injection h with h4 h
 subst h h4
 have e : (⟨(l.take (l.length - r3.length)).toArray⟩ : ByteArray).size = (l.take (l.length - r3.length)).length := List.size_toArray
 rw [e, List.length_take]
 omega
def SzV (val : List UInt8 → Res J) : Prop := ∀ l j r, val l = .ok j r → szJ j + 4 * r.length ≤ 4 * l.length
theorem rowP_sz {α : Type} (mu : α → Nat) {one : α → List UInt8 → Res α} {en : UInt8} (ho : ∀ x l y r, one x l = .ok y r → mu y + 4 * r.length ≤ mu x + 4 * l.length + 1) : ∀ (m : Nat) (first : Bool) (x : α) (l : List UInt8) {y : α} {r : List UInt8}, rowP one en m first x l = .ok y r → mu y + 4 * r.length ≤ mu x + 4 * l.length
 | 0, first, x, l, y, r, h => by cases h
 | m + 1, first, x, l, y, r, h => by
  cases hf : (if first then tk en l else none) with
  | some r2 =>
   cases first with
   | false => cases hf
   | true =>
    rw [if_pos rfl] at hf
    rw [rowP_end hf] at h
    injection h with h1 h
    subst h h1
    have := tk_len hf
    omega
  | none =>
   rw [rowP_go hf] at h
   obtain ⟨z, r1, h1, h⟩ := bind_ok h
   have i1 := ho _ _ _ _ h1
   have i2 := (blankP_sfx r1).le
   split at h
   ·rename_i r2 ht
    injection h with h3 h
    subst h h3
    have := tk_len ht
    omega
   ·obtain ⟨_, r3, h3, h⟩ := bind_ok h
    have i3 := must_len h3
    have i4 := (blankP_sfx r3).le
    have i5 := rowP_sz mu ho m _ _ _ h
    omega
theorem valS_sz {deeper : Option (List UInt8 → Res J)} (hd : ∀ val, deeper = some val → SzV val) : SzV (valS deeper) := by
 intro l j r h
 rw [valS_eq] at h
 unfold valT at h
 split at h
 ·obtain ⟨_, r1, h1, h⟩ := bind_ok h; injection h with h2 h; subst h h2; have := (wordP_sfx _ _ h1).le; simp only [jNull, szJ, szJs, szMs]; show 0 + 0 + 0 + _ ≤ _; omega
 split at h
 ·obtain ⟨_, r1, h1, h⟩ := bind_ok h; injection h with h2 h; subst h h2; have := (wordP_sfx _ _ h1).le; simp only [jTruth, szJ, szJs, szMs]; show 0 + 0 + 0 + _ ≤ _; omega
 split at h
 ·obtain ⟨_, r1, h1, h⟩ := bind_ok h; injection h with h2 h; subst h h2; have := (wordP_sfx _ _ h1).le; simp only [jTruth, szJ, szJs, szMs]; show 0 + 0 + 0 + _ ≤ _; omega
 split at h
 ·obtain ⟨t, r1, h1, h⟩ := bind_ok h; injection h with h2 h; subst h h2; have := textP_sz h1; simp only [jStr, szJ, szJs, szMs]; omega
 split at h
 ·cases deeper with
  | none => cases h
  | some val =>
   obtain ⟨js, r1, h1, h⟩ := bind_ok h; injection h with h4 h; subst h h4
   obtain ⟨_, r2, h2, h1⟩ := bind_ok h1
   have i1 := rowP_sz szJs (fun x l y r he => by
    obtain ⟨j, r1, h1, h2⟩ := bind_ok he
    injection h2 with h3 h4
    subst h3 h4
    have := hd val rfl _ _ _ h1
    rw [szJs_snoc]; omega) _ _ _ _ h1
   have i2 := (enterP_sfx h2).le
   simp only [szJs] at i1
   simp only [jArr, szJ, szMs]
   show 0 + _ + 0 + _ ≤ _
   omega
 split at h
 ·cases deeper with
  | none => cases h
  | some val =>
   obtain ⟨ms, r1, h1, h⟩ := bind_ok h; injection h with h4 h; subst h h4
   obtain ⟨_, r2, h2, h1⟩ := bind_ok h1
   have i1 := rowP_sz szMs (fun x l y r he => by
    obtain ⟨t, r1, h1, h2⟩ := bind_ok he
    split at h2
    ·cases h2
    ·obtain ⟨_, r2, h3, h2⟩ := bind_ok h2
     obtain ⟨j, r3, h4, h2⟩ := bind_ok h2
     injection h2 with h5 h6
     subst h5 h6
     have a1 := textP_sz h1
     have a2 := (blankP_sfx r1).le
     have a3 := must_len h3
     have a4 := (blankP_sfx r2).le
     have a5 := hd val rfl _ _ _ h4
     rw [szMs_snoc]; omega) _ _ _ _ h1
   have i2 := (enterP_sfx h2).le
   simp only [szMs] at i1
   simp only [jObj, szJ, szJs]
   show 0 + 0 + _ + _ ≤ _
   omega
 split at h
 ·obtain ⟨t, r1, h1, h⟩ := bind_ok h; injection h with h2 h; subst h h2; have := numberP_sz h1; simp only [jNum, szJ, szJs, szMs]; omega
 ·cases h
theorem valP_sz : ∀ d, SzV (valP d)
 | 0 => valS_sz fun _ h => (nomatch h)
 | d + 1 => valS_sz fun _ h => by injection h with h; subst h; exact valP_sz d
theorem parse_sz (bs : List UInt8) (d : Int) : szJ (parseP bs d).1 ≤ 65536 := by
 unfold parseP
 split
 ·exact Nat.zero_le _
 split
 ·exact Nat.zero_le _
 split
 ·exact Nat.zero_le _
 rename_i h1 _ _
 split
 ·rename_i j r h
  unfold wholeP at h
  obtain ⟨j2, r2, h2, h⟩ := bind_ok h
  have i1 := valP_sz _ _ _ _ h2
  have i2 := (blankP_sfx bs).le
  split at h
  ·injection h with h3 h
   subst h3
   show szJ j2 ≤ _
   omega
  ·cases h
 ·exact Nat.zero_le _
end Go.Kx.Ro
namespace Go.Kx.Cl
open Go.Proofs Go.Kx Go.RowKit Go.Kx.Js Go.Kx.Pr Go.Kx.Rt Go.Kx.Ob Go.Kx.Wo Go.Kx.Ro Go.Kx.Jw
set_option maxRecDepth 20000
set_option linter.unusedSimpArgs false
theorem right_obj (ms : Ms) : rightJ (objJ ms) = (rightMs ms && noTwice (ms.map (·.1))) := by
 unfold objJ
 rw [rightJ]
 have h : bareJ (.mk 6 false ⟨#[]⟩ [] ms) = true := rfl
 rw [h]
 simp
theorem right_str (s : ByteArray) : rightJ (strJ s) = toldP s := by
 unfold strJ
 rw [rightJ]
 simp [bareJ, J.kind, J.yes, J.text, J.list, J.mems]
theorem right_num (n : Int) : rightJ (numJ n) = numericP (Lb.itoaB n) := by
 unfold numJ
 rw [rightJ]
 simp [bareJ, J.kind, J.yes, J.text, J.list, J.mems]
theorem itoa_nat (n : Int) (h : 0 ≤ n) : Lb.itoaB n = ⟨(Lib.decDigits n.toNat).toArray⟩ := by
 unfold Lb.itoaB Lib.itoa
 rw [if_neg (by omega)]
theorem numeric_itoa (n : Int) (h : 0 ≤ n) : numericP (Lb.itoaB n) = true := by
 rw [itoa_nat n h]
 unfold numericP
 have := number_read n.toNat [] (fun c hc => by simp at hc)
 rw [List.append_nil] at this
 simp only [List.toList_toArray, this]
 exact str_refl _
theorem int_num (n : Int) (h0 : 0 ≤ n) (h1 : n ≤ 1099511627776) : intP (numJ n) = (n, true) := by
 unfold intP
 have hk : (numJ n).kind = 3 := rfl
 have ht : (numJ n).text = Lb.itoaB n := rfl
 rw [hk, ht, if_pos ⟨rfl, numeric_itoa n h0⟩, itoa_nat n h0]
 have := Lb.atoi_dec n.toNat (by omega)
 simp only [List.toList_toArray, this]
 rw [if_neg (by omega), Int.toNat_of_nonneg h0]
theorem word_refl {m : Nat} {s : ByteArray} (h : wordP m s = true) : toldP s = true := (word_size h).2.1
theorem bool_if {b : Bool} {c : Prop} [Decidable c] (h : (if c then b else false) = true) : c ∧ b = true := by
 split at h
 ·exact ⟨by assumption, h⟩
 ·cases h
theorem sub_cases {x : Sub} (h : subRight x = true) : (∃ id, x = ⟨sOpaque, id, ⟨#[]⟩⟩ ∧ wordP 256 id = true) ∨ (∃ id, x = ⟨sEmail, id, ⟨#[]⟩⟩ ∧ wordP 256 id = true ∧ addrP id = true) ∨ (∃ id own, x = ⟨sIssSub, id, own⟩ ∧ wordP 256 id = true ∧ wordP 256 own = true) := by
 obtain ⟨f, id, own⟩ := x
 unfold subRight at h
 simp only at h
 split at h
 ·rename_i hf
  subst hf
  simp only [Bool.and_eq_true, strEq_iff] at h
  obtain ⟨h1, rfl⟩ := h
  exact .inl ⟨id, rfl, h1⟩
 split at h
 ·rename_i _ hf
  subst hf
  simp only [Bool.and_eq_true, strEq_iff] at h
  obtain ⟨h1, h2, rfl⟩ := h
  exact .inr (.inl ⟨id, rfl, h1, h2⟩)
 ·obtain ⟨hf, h2⟩ := bool_if h
  subst hf
  simp only [Bool.and_eq_true] at h2
  exact .inr (.inr ⟨id, own, rfl, h2.1, h2.2⟩)
theorem right2 {a b : ByteArray} {s t : ByteArray} (hab : a ≠ b) (ha : toldP a = true) (hb : toldP b = true) (hs : toldP s = true) (ht : toldP t = true) : rightJ (objJ [(a, strJ s), (b, strJ t)]) = true := by
 rw [right_obj]
 simp only [rightMs, right_str, ha, hb, hs, ht, Bool.and_true, Bool.true_and]
 exact noTwice_of (by simp [hab])
theorem right3 {a b c : ByteArray} {s t u : ByteArray} (hab : a ≠ b) (hac : a ≠ c) (hbc : b ≠ c) (ha : toldP a = true) (hb : toldP b = true) (hc : toldP c = true) (hs : toldP s = true) (ht : toldP t = true) (hu : toldP u = true) : rightJ (objJ [(a, strJ s), (b, strJ t), (c, strJ u)]) = true := by
 rw [right_obj]
 simp only [rightMs, right_str, ha, hb, hc, hs, ht, hu, Bool.and_true, Bool.true_and]
 exact noTwice_of (by simp [hab, hac, hbc])
theorem told_lit {s : ByteArray} (h : s.data.toList.all (fun c => decide (c.toNat < 128)) = true) : toldP s = true := (toldP_iff s).2 (Ro.Told.ascii h)
theorem sub_right {x : Sub} (h : subRight x = true) : rightJ (subJ x) = true := by
 rcases sub_cases h with ⟨id, rfl, h1⟩ | ⟨id, rfl, h1, h2⟩ | ⟨id, own, rfl, h1, h2⟩
 ·exact right2 (by decide) (told_lit (by decide)) (told_lit (by decide)) (told_lit (s := sOpaque) (by decide)) (word_refl h1)
 ·exact right2 (by decide) (told_lit (by decide)) (told_lit (by decide)) (told_lit (s := sEmail) (by decide)) (word_refl h1)
 ·exact right3 (by decide) (by decide) (by decide) (told_lit (by decide)) (told_lit (by decide)) (told_lit (by decide)) (told_lit (s := sIssSub) (by decide)) (word_refl h2) (word_refl h1)
theorem nb {n : Nat} : ¬ ((true = false) ∨ n ≠ n) := by simp
theorem sub_of {x : Sub} (h : subRight x = true) : subOf (subJ x) = (x, 0) := by
 have hr := sub_right h
 rcases sub_cases h with ⟨id, rfl, h1⟩ | ⟨id, rfl, h1, h2⟩ | ⟨id, own, rfl, h1, h2⟩
 ·have m1 : memT (subJ ⟨sOpaque, id, ⟨#[]⟩⟩) sFormat = (sOpaque, true) := rfl
  have m2 : memT (subJ ⟨sOpaque, id, ⟨#[]⟩⟩) ((namesOf sOpaque).getD 0 ⟨#[]⟩) = (id, true) := rfl
  unfold subOf
  simp only [m1, m2]
  rw [if_neg (by decide), if_neg (by decide), if_neg (by rw [hr]; exact nb), if_neg (by decide), h]
  rfl
 ·have m1 : memT (subJ ⟨sEmail, id, ⟨#[]⟩⟩) sFormat = (sEmail, true) := rfl
  have m2 : memT (subJ ⟨sEmail, id, ⟨#[]⟩⟩) ((namesOf sEmail).getD 0 ⟨#[]⟩) = (id, true) := rfl
  unfold subOf
  simp only [m1, m2]
  rw [if_neg (by decide), if_neg (by decide), if_neg (by rw [hr]; exact nb), if_neg (by decide), h]
  rfl
 ·have m1 : memT (subJ ⟨sIssSub, id, own⟩) sFormat = (sIssSub, true) := rfl
  have m2 : memT (subJ ⟨sIssSub, id, own⟩) sSub = (id, true) := rfl
  have m3 : memT (subJ ⟨sIssSub, id, own⟩) sIss = (own, true) := rfl
  unfold subOf
  simp only [m1, m2, m3]
  rw [if_neg (by decide), if_neg (by decide), if_neg (by rw [hr]; exact nb), if_pos trivial, h]
  rfl
theorem name_some {k : Int} (h : 1 ≤ k ∧ k ≤ 6) : k = 1 ∨ k = 2 ∨ k = 3 ∨ k = 4 ∨ k = 5 ∨ k = 6 := by omega
theorem kind_name {k : Int} (h : 1 ≤ k ∧ k ≤ 6) : kindN (nameK k) = k := by
 rcases name_some h with rfl | rfl | rfl | rfl | rfl | rfl <;> decide +kernel
theorem name_ascii {k : Int} (h : 1 ≤ k ∧ k ≤ 6) : (nameK k).data.toList.all (fun c => decide (c.toNat < 128)) = true ∧ (nameK k).size ≤ 80 := by
 rcases name_some h with rfl | rfl | rfl | rfl | rfl | rfl <;> decide +kernel
structure RightC (c : Clm) : Prop where
 kind : 1 ≤ c.kind ∧ c.kind ≤ 6
 iss : wordP 256 c.iss = true
 jti : wordP 256 c.jti = true
 aud : wordP 256 c.aud = true
 txn : wordP 256 c.txn = true
 iat : 0 ≤ c.iat ∧ c.iat ≤ 1099511627776
 sub : subRight c.sub = true
 reason : c.reason = ⟨#[]⟩ ∨ wordP 256 c.reason = true
theorem right_iff (c : Clm) : clRight c = true ↔ RightC c := by
 unfold clRight
 simp only [Bool.and_eq_true, decide_eq_true_eq, Bool.or_eq_true, strEq_iff]
 constructor
 ·rintro ⟨h1, h2, h3, h4, h5, h6, h7, h8, h9⟩
  exact ⟨h1, h2, h3, h4, h5, ⟨h6, h7⟩, h8, h9⟩
 ·rintro ⟨h1, h2, h3, h4, h5, ⟨h6, h7⟩, h8, h9⟩
  exact ⟨h1, h2, h3, h4, h5, h6, h7, h8, h9⟩
theorem ev_right {c : Clm} (h : RightC c) : rightJ (evJ c) = true := by
 unfold evJ
 rw [right_obj]
 simp only [rightMs, told_lit (name_ascii h.kind).1, Bool.true_and, Bool.and_true, Bool.and_eq_true]
 refine ⟨?_, noTwice_of (by simp)⟩
 rw [right_obj]
 unfold evMs
 split
 ·simp only [rightMs, Bool.true_and]; exact noTwice_of (by simp)
 ·rename_i hr
  have : wordP 256 c.reason = true := by
   rcases h.reason with e | e
   ·rw [e] at hr; exact absurd (str_refl _) hr
   ·exact e
  simp only [rightMs, right_str, told_lit (show sReason.data.toList.all (fun c => decide (c.toNat < 128)) = true by decide), word_refl this, Bool.true_and, Bool.and_true]
  exact noTwice_of (by simp)
theorem names_nodup : ([sIss, sJti, sIat, sAud, sTxn, sSubId, sEvents] : List ByteArray).Nodup := by decide
theorem cl_right {c : Clm} (h : RightC c) : rightJ (clJ c) = true := by
 unfold clJ
 rw [right_obj]
 have hn : noTwice ((clMs c).map (·.1)) = true := noTwice_of names_nodup
 rw [hn, Bool.and_true]
 have l1 : toldP sIss = true := told_lit (by decide)
 have l2 : toldP sJti = true := told_lit (by decide)
 have l3 : toldP sIat = true := told_lit (by decide)
 have l4 : toldP sAud = true := told_lit (by decide)
 have l5 : toldP sTxn = true := told_lit (by decide)
 have l6 : toldP sSubId = true := told_lit (by decide)
 have l7 : toldP sEvents = true := told_lit (by decide)
 simp only [clMs, rightMs, right_str, right_num, l1, l2, l3, l4, l5, l6, l7, word_refl h.iss, word_refl h.jti, word_refl h.aud, word_refl h.txn, numeric_itoa c.iat h.iat.1, sub_right h.sub, ev_right h, Bool.true_and, Bool.and_true]
theorem event_ev {c : Clm} (h : RightC c) : event (evJ c) = (c.kind, c.reason) := by
 have hk := kind_name h.kind
 unfold evMs at *
 have : event (evJ c) = (kindN (nameK c.kind), said (objJ (evMs c)) sReason) := rfl
 rw [this, hk]
 congr 1
 unfold evMs
 split
 ·rename_i hr
  rw [strEq_iff] at hr
  rw [hr]; rfl
 ·rfl
theorem ofC_cl {c : Clm} (h : RightC c) : ofC (clJ c) = c := by
 have e1 : said (clJ c) sIss = c.iss := rfl
 have e2 : said (clJ c) sJti = c.jti := rfl
 have e3 : said (clJ c) sAud = c.aud := rfl
 have e4 : memJ (clJ c) sIat = numJ c.iat := rfl
 have e5 : said (clJ c) sTxn = c.txn := rfl
 have e6 : memJ (clJ c) sSubId = subJ c.sub := rfl
 have e7 : memJ (clJ c) sEvents = evJ c := rfl
 unfold ofC
 rw [e1, e2, e3, e4, e5, e6, e7, int_num c.iat h.iat.1 h.iat.2, sub_of h.sub, event_ev h]
theorem of_cl {c : Clm} (h : RightC c) : ofP (clJ c) = some c := by
 unfold ofP
 rw [ofC_cl h, (right_iff c).2 h]
 unfold sameP
 rw [cl_right h]
 simp
theorem of_some {j : J} {c : Clm} (h : ofP j = some c) : RightC c ∧ sameP (clJ c) j = true := by
 unfold ofP at h
 split at h
 ·rename_i h1
  injection h with h
  subst h
  rw [Bool.and_eq_true] at h1
  exact ⟨(right_iff _).1 h1.1, h1.2⟩
 ·cases h
theorem same_wr {a b : J} (h : sameP a b = true) : rightJ a = true ∧ rightJ b = true ∧ wrJ a = wrJ b := by
 unfold sameP at h
 simp only [Bool.and_eq_true, beq_iff_eq] at h
 exact ⟨h.1.1, h.1.2, h.2⟩
def NTold (ms : Ms) : Prop := ∀ (i : Nat) (s : ByteArray) (j : J), ms[i]? = some (s, j) → Ro.Told s.data.toList ∧ Ro.Told (wrJ j)
theorem ms_told : ∀ (ms : Ms) (f : Bool), NTold ms → Ro.Told (wrMs f ms)
 | [], f, _ => by simp only [wrMs]; exact .nil
 | (s, j) :: r, f, h => by
  obtain ⟨h1, h2⟩ := h 0 s j rfl
  have h3 := ms_told r false fun i s j hi => h (i + 1) s j (by simpa using hi)
  simp only [wrMs]
  refine Ro.Told.append (Ro.Told.append (Ro.Told.append (Ro.Told.append ?_ h1.quote) (.ascii (by decide))) h2) h3
  cases f
  ·exact .ascii (by decide)
  ·exact .nil
theorem obj_told {ms : Ms} (h : NTold ms) : Ro.Told (wrJ (objJ ms)) := by
 have : wrJ (objJ ms) = [123] ++ wrMs true ms ++ [125] := by unfold objJ; simp [wrJ]
 rw [this]
 exact (Ro.Told.append (.ascii (by decide)) (ms_told ms true h)).append (.ascii (by decide))
theorem str_told {s : ByteArray} (h : toldP s = true) : Ro.Told (wrJ (strJ s)) := by rw [wr_str]; exact ((toldP_iff s).1 h).quote
theorem nt_nil : NTold [] := fun i s j h => by simp at h
theorem nt_cons {s : ByteArray} {j : J} {ms : Ms} (h1 : s.data.toList.all (fun c => decide (c.toNat < 128)) = true) (h2 : Ro.Told (wrJ j)) (h3 : NTold ms) : NTold ((s, j) :: ms) := fun i t k h => by
 cases i with
 | zero => simp at h; obtain ⟨rfl, rfl⟩ := h; exact ⟨.ascii h1, h2⟩
 | succ i => exact h3 i t k (by simpa using h)
theorem dig_ascii : ∀ l : List UInt8, l.all isDig = true → l.all (fun c => decide (c.toNat < 128)) = true
 | [], _ => rfl
 | c :: t, h => by
  simp only [List.all_cons, Bool.and_eq_true, isDig, decide_eq_true_eq] at h
  simp only [List.all_cons, Bool.and_eq_true, decide_eq_true_eq]
  exact ⟨by omega, dig_ascii t h.2⟩
theorem num_wr (n : Int) (h : 0 ≤ n) : wrJ (numJ n) = Lib.decDigits n.toNat := by
 unfold numJ
 rw [itoa_nat n h]
 simp [wrJ]
theorem num_told (n : Int) (h : 0 ≤ n) : Ro.Told (wrJ (numJ n)) := by rw [num_wr n h]; exact .ascii (dig_ascii _ (dec_dig _))
theorem sub_told {x : Sub} (h : subRight x = true) : Ro.Told (wrJ (subJ x)) := by
 rcases sub_cases h with ⟨id, rfl, h1⟩ | ⟨id, rfl, h1, h2⟩ | ⟨id, own, rfl, h1, h2⟩
 ·exact obj_told (nt_cons (by decide) (str_told (told_lit (s := sOpaque) (by decide))) (nt_cons (by decide) (str_told (word_refl h1)) nt_nil))
 ·exact obj_told (nt_cons (by decide) (str_told (told_lit (s := sEmail) (by decide))) (nt_cons (by decide) (str_told (word_refl h1)) nt_nil))
 ·exact obj_told (nt_cons (by decide) (str_told (told_lit (s := sIssSub) (by decide))) (nt_cons (by decide) (str_told (word_refl h2)) (nt_cons (by decide) (str_told (word_refl h1)) nt_nil)))
theorem reason_word {c : Clm} (h : RightC c) (hr : ¬ strEq c.reason ⟨#[]⟩ = true) : wordP 256 c.reason = true := by
 rcases h.reason with e | e
 ·rw [e] at hr; exact absurd (str_refl _) hr
 ·exact e
theorem ev_told {c : Clm} (h : RightC c) : Ro.Told (wrJ (evJ c)) := by
 refine obj_told (nt_cons (name_ascii h.kind).1 (obj_told ?_) nt_nil)
 unfold evMs
 split
 ·exact nt_nil
 ·rename_i hr
  exact nt_cons (by decide) (str_told (word_refl (reason_word h hr))) nt_nil
theorem cl_told {c : Clm} (h : RightC c) : Ro.Told (wrJ (clJ c)) :=
 obj_told (nt_cons (by decide) (str_told (word_refl h.iss)) (nt_cons (by decide) (str_told (word_refl h.jti)) (nt_cons (by decide) (num_told _ h.iat.1) (nt_cons (by decide) (str_told (word_refl h.aud)) (nt_cons (by decide) (str_told (word_refl h.txn)) (nt_cons (by decide) (sub_told h.sub) (nt_cons (by decide) (ev_told h) nt_nil)))))))
theorem str_sz (s : ByteArray) : szJ (strJ s) = s.size := by unfold strJ; simp [szJ, szJs, szMs]
theorem obj_sz (ms : Ms) : szJ (objJ ms) = szMs ms := by unfold objJ; simp only [szJ, szJs]; show 0 + 0 + _ = _; omega
theorem dec_len : ∀ (k u : Nat), u < 10 ^ k → 0 < k → (Lib.decDigits u).length ≤ k
 | 0, u, h, h0 => by omega
 | k + 1, u, h, _ => by
  by_cases hu : u < 10
  ·rw [Lib.decDigits_one hu]; simp
  ·rw [Lb.decDigits_big hu]
   have hk : 0 < k := by
    rcases Nat.eq_zero_or_pos k with rfl | h0
    ·simp at h; omega
    ·exact h0
   have := dec_len k (u / 10) (by rw [Nat.pow_succ] at h; omega) hk
   simp only [List.length_append, List.length_cons, List.length_nil]
   omega
theorem num_sz (n : Int) (h0 : 0 ≤ n) (h1 : n ≤ 1099511627776) : szJ (numJ n) ≤ 13 := by
 unfold numJ
 rw [itoa_nat n h0]
 simp only [szJ, szJs, szMs]
 have := dec_len 13 n.toNat (by omega) (by decide)
 show (Lib.decDigits n.toNat).toArray.size + 0 + 0 ≤ 13
 rw [List.size_toArray]; omega
theorem sub_sz {x : Sub} (h : subRight x = true) : szJ (subJ x) ≤ 540 := by
 have e1 : sFormat.size = 6 := rfl
 have e2 : sOpaque.size = 6 := rfl
 have e3 : sId.size = 2 := rfl
 have e4 : sEmail.size = 5 := rfl
 have e5 : sIssSub.size = 7 := rfl
 have e6 : sIss.size = 3 := rfl
 have e7 : sSub.size = 3 := rfl
 rcases sub_cases h with ⟨id, rfl, h1⟩ | ⟨id, rfl, h1, h2⟩ | ⟨id, own, rfl, h1, h2⟩
 ·have := (word_size h1).1
  have : szJ (subJ ⟨sOpaque, id, ⟨#[]⟩⟩) = szMs [(sFormat, strJ sOpaque), (sId, strJ id)] := obj_sz _
  rw [this]
  simp only [szMs, str_sz, e1, e2, e3]
  omega
 ·have := (word_size h1).1
  have : szJ (subJ ⟨sEmail, id, ⟨#[]⟩⟩) = szMs [(sFormat, strJ sEmail), (sEmail, strJ id)] := obj_sz _
  rw [this]
  simp only [szMs, str_sz, e1, e4]
  omega
 ·have := (word_size h1).1
  have := (word_size h2).1
  have : szJ (subJ ⟨sIssSub, id, own⟩) = szMs [(sFormat, strJ sIssSub), (sIss, strJ own), (sSub, strJ id)] := obj_sz _
  rw [this]
  simp only [szMs, str_sz, e1, e5, e6, e7]
  omega
theorem reason_size {c : Clm} (h : RightC c) : c.reason.size ≤ 256 := by
 rcases h.reason with e | e
 ·rw [e]; decide
 ·exact (word_size e).1
theorem evr_sz {c : Clm} (h : RightC c) : szJ (objJ (evMs c)) ≤ 263 := by
 have := reason_size h
 rw [obj_sz]
 unfold evMs
 split
 ·simp [szMs]
 ·have e : sReason.size = 6 := rfl
  simp only [szMs, str_sz, e]
  omega
theorem cl_sz {c : Clm} (h : RightC c) : szJ (clJ c) ≤ 2000 := by
 have e1 : sIss.size = 3 := rfl
 have e2 : sJti.size = 3 := rfl
 have e3 : sIat.size = 3 := rfl
 have e4 : sAud.size = 3 := rfl
 have e5 : sTxn.size = 3 := rfl
 have e6 : sSubId.size = 6 := rfl
 have e7 : sEvents.size = 6 := rfl
 have a1 := (word_size h.iss).1
 have a2 := (word_size h.jti).1
 have a3 := (word_size h.aud).1
 have a4 := (word_size h.txn).1
 have a5 := num_sz c.iat h.iat.1 h.iat.2
 have a6 := sub_sz h.sub
 have a7 := evr_sz h
 have a8 := (name_ascii h.kind).2
 unfold clJ
 rw [obj_sz]
 simp only [clMs, evJ, szMs, str_sz, obj_sz, e1, e2, e3, e4, e5, e6, e7] at *
 omega
theorem cl_sm {c : Clm} (h : RightC c) : smJ (clJ c) := sm_of _ (by have := cl_sz h; omega)
theorem cl_wr6 {c : Clm} (h : RightC c) : 6 * (wrJ (clJ c)).length ≤ 8000000 := by
 have := wr_of (clJ c)
 have := cl_sz h
 omega
theorem str_wrl (s : ByteArray) : (wrJ (strJ s)).length ≤ 6 * s.size + 2 := by rw [wr_str]; exact quote6 s
theorem ms_wrl : ∀ (ms : Ms) (f : Bool), (wrMs f ms).length ≤ (ms.map fun m => 6 * m.1.size + 4 + (wrJ m.2).length).sum
 | [], f => by simp [wrMs]
 | (s, j) :: r, f => by
  have h2 := ms_wrl r false
  have h4 := quote6 s
  have h3 : (if f then ([] : List UInt8) else [44]).length ≤ 1 := by cases f <;> simp
  simp only [wrMs, List.length_append, List.length_cons, List.length_nil, List.map_cons, List.sum_cons]
  omega
theorem obj_wrl (ms : Ms) : (wrJ (objJ ms)).length ≤ (ms.map fun m => 6 * m.1.size + 4 + (wrJ m.2).length).sum + 2 := by
 have : wrJ (objJ ms) = [123] ++ wrMs true ms ++ [125] := by unfold objJ; simp [wrJ]
 rw [this]
 have := ms_wrl ms true
 simp only [List.length_append, List.length_cons, List.length_nil]
 omega
theorem sub_wrl {x : Sub} (h : subRight x = true) : (wrJ (subJ x)).length ≤ 3300 := by
 have e1 : sFormat.size = 6 := rfl
 have e2 : sOpaque.size = 6 := rfl
 have e3 : sId.size = 2 := rfl
 have e4 : sEmail.size = 5 := rfl
 have e5 : sIssSub.size = 7 := rfl
 have e6 : sIss.size = 3 := rfl
 have e7 : sSub.size = 3 := rfl
 rcases sub_cases h with ⟨id, rfl, h1⟩ | ⟨id, rfl, h1, h2⟩ | ⟨id, own, rfl, h1, h2⟩
 ·have := (word_size h1).1
  have g := obj_wrl [(sFormat, strJ sOpaque), (sId, strJ id)]
  have g1 := str_wrl sOpaque
  have g2 := str_wrl id
  simp only [List.map_cons, List.map_nil, List.sum_cons, List.sum_nil, e1, e2, e3] at g g1
  show (wrJ (objJ [(sFormat, strJ sOpaque), (sId, strJ id)])).length ≤ _
  omega
 ·have := (word_size h1).1
  have g := obj_wrl [(sFormat, strJ sEmail), (sEmail, strJ id)]
  have g1 := str_wrl sEmail
  have g2 := str_wrl id
  simp only [List.map_cons, List.map_nil, List.sum_cons, List.sum_nil, e1, e4] at g g1
  show (wrJ (objJ [(sFormat, strJ sEmail), (sEmail, strJ id)])).length ≤ _
  omega
 ·have := (word_size h1).1
  have := (word_size h2).1
  have g := obj_wrl [(sFormat, strJ sIssSub), (sIss, strJ own), (sSub, strJ id)]
  have g1 := str_wrl sIssSub
  have g2 := str_wrl id
  have g3 := str_wrl own
  simp only [List.map_cons, List.map_nil, List.sum_cons, List.sum_nil, e1, e5, e6, e7] at g g1
  show (wrJ (objJ [(sFormat, strJ sIssSub), (sIss, strJ own), (sSub, strJ id)])).length ≤ _
  omega
theorem cl_wrl {c : Clm} (h : RightC c) : (wrJ (clJ c)).length ≤ 16384 := by
 have e1 : sIss.size = 3 := rfl
 have e2 : sJti.size = 3 := rfl
 have e3 : sIat.size = 3 := rfl
 have e4 : sAud.size = 3 := rfl
 have e5 : sTxn.size = 3 := rfl
 have e6 : sSubId.size = 6 := rfl
 have e7 : sEvents.size = 6 := rfl
 have e8 : sReason.size = 6 := rfl
 have a1 := (word_size h.iss).1
 have a2 := (word_size h.jti).1
 have a3 := (word_size h.aud).1
 have a4 := (word_size h.txn).1
 have a5 : (wrJ (numJ c.iat)).length ≤ 13 := by rw [num_wr _ h.iat.1]; exact dec_len 13 _ (by have := h.iat.2; omega) (by decide)
 have a6 := sub_wrl h.sub
 have a8 := (name_ascii h.kind).2
 have a9 := reason_size h
 have b1 := str_wrl c.iss
 have b2 := str_wrl c.jti
 have b3 := str_wrl c.aud
 have b4 := str_wrl c.txn
 have b5 : (wrJ (objJ (evMs c))).length ≤ 1600 := by
  have g := obj_wrl (evMs c)
  have g1 := str_wrl c.reason
  unfold evMs at g ⊢
  split at g
  ·rename_i hh; rw [if_pos hh]; simp at g; omega
  ·rename_i hh; rw [if_neg hh]; simp only [List.map_cons, List.map_nil, List.sum_cons, List.sum_nil, e8] at g; omega
 have b6 := obj_wrl [(nameK c.kind, objJ (evMs c))]
 have b7 := obj_wrl (clMs c)
 simp only [clMs, evJ, List.map_cons, List.map_nil, List.sum_cons, List.sum_nil, e1, e2, e3, e4, e5, e6, e7] at b6 b7
 unfold clJ clMs evJ
 omega
theorem pl_nil {d : Nat} (i : Nat) (s : ByteArray) (j : J) (h : ([] : Ms)[i]? = some (s, j)) : Pl d j := by simp at h
theorem pl_cons {d : Nat} {s0 : ByteArray} {j0 : J} {ms : Ms} (h1 : Pl d j0) (h2 : ∀ (i : Nat) (s : ByteArray) (j : J), ms[i]? = some (s, j) → Pl d j) (i : Nat) (s : ByteArray) (j : J) (h : ((s0, j0) :: ms)[i]? = some (s, j)) : Pl d j := by
 cases i with
 | zero => simp at h; obtain ⟨rfl, rfl⟩ := h; exact h1
 | succ i => exact h2 i s j (by simpa using h)
theorem num_pl {d : Nat} (n : Int) (h0 : 0 ≤ n) (h1 : n ≤ 1099511627776) : Pl d (numJ n) := by
 unfold numJ
 rw [itoa_nat n h0]
 exact .num _ (by omega)
theorem sub_pl {d : Nat} {x : Sub} (h : subRight x = true) : Pl (d + 1) (subJ x) := by
 rcases sub_cases h with ⟨id, rfl, h1⟩ | ⟨id, rfl, h1, h2⟩ | ⟨id, own, rfl, h1, h2⟩
 ·exact .obj _ (pl_cons (.str _) (pl_cons (.str _) pl_nil)) (show ([sFormat, sId] : List ByteArray).Nodup by decide)
 ·exact .obj _ (pl_cons (.str _) (pl_cons (.str _) pl_nil)) (show ([sFormat, sEmail] : List ByteArray).Nodup by decide)
 ·exact .obj _ (pl_cons (.str _) (pl_cons (.str _) (pl_cons (.str _) pl_nil))) (show ([sFormat, sIss, sSub] : List ByteArray).Nodup by decide)
theorem ev_pl {d : Nat} (c : Clm) : Pl (d + 2) (evJ c) := by
 refine .obj _ (pl_cons (.obj _ ?_ ?_) pl_nil) (by simp)
 ·unfold evMs
  split
  ·exact pl_nil
  ·exact pl_cons (.str _) pl_nil
 ·unfold evMs
  split <;> simp
theorem cl_pl {c : Clm} (h : RightC c) : Pl 4 (clJ c) :=
 .obj _ (pl_cons (.str _) (pl_cons (.str _) (pl_cons (num_pl _ h.iat.1 h.iat.2) (pl_cons (.str _) (pl_cons (.str _) (pl_cons (sub_pl h.sub) (pl_cons (ev_pl c) pl_nil))))))) names_nodup
theorem cl_parse {c : Clm} (h : RightC c) : parseP (wrJ (clJ c)) 4 = (clJ c, 0, 0) := parse_read (cl_pl h) (by decide) (by decide) (cl_wrl h) (cl_told h)
abbrev sType := (⟨#[115, 101, 99, 101, 118, 101, 110, 116, 43, 106, 119, 116]⟩ : ByteArray)
def csignP (c : Clm) (kid : ByteArray) (key : List UInt8) : ByteArray × Int := if clRight c = false then (⟨#[]⟩, 10) else signP kid sType (wrJ (clJ c)) key
def readP (s : ByteArray) (key : List UInt8) : Except Int Clm :=
 match verifyP s key with
 | .error e => .error e
 | .ok t => if t.typ ≠ sType then .error 42 else
  if (parseP t.payload 4).2.1 ≠ 0 then .error 10 else
  if (printP (parseP t.payload 4).1).1 ≠ ⟨t.payload.toArray⟩ then .error 10 else
  match ofP (parseP t.payload 4).1 with
  | none => .error 10
  | some c => .ok c
theorem sign_read {c : Clm} {kid : ByteArray} {key : List UInt8} {s : ByteArray} (h : csignP c kid key = (s, 0)) : readP s key = .ok c := by
 unfold csignP at h
 split at h
 ·cases h
 rename_i hr
 simp only [Bool.not_eq_false] at hr
 have hc := (right_iff c).1 hr
 have hv := sign_verify h
 unfold readP
 rw [hv]
 simp only []
 rw [cl_parse hc, if_neg (by simp), if_neg (by simp)]
 have hp : printP (clJ c) = (⟨(wrJ (clJ c)).toArray⟩, 0) := by unfold printP; rw [if_pos (cl_right hc)]
 rw [hp, if_neg (by simp), of_cl hc]
end Go.Kx.Cl
