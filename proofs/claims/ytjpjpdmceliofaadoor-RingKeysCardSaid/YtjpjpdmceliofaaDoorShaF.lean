/- SHA-256: the sum. No condition of its own. -/
import Derived.Test.YtjpjpdmceliofaaDoorShaE
namespace Go.Kx.Sha
open Go.Proofs Go.Kx
set_option maxRecDepth 20000

theorem wrap8 (x : Int) : IntKind.u8.wrap x = x % 256 := by simp [IntKind.wrap, IntKind.bits, IntKind.signed]
theorem byteOf_toNat (n : Nat) : ((byteOf (n : Int)).toNat : Int) = n % 256 := by
  unfold byteOf
  have : ((n : Int) % 256).toNat < 256 := by omega
  rw [UInt8.toNat_ofNat', Nat.mod_eq_of_lt this]; omega
theorem fdiv_pow (N k : Nat) : ((N : Int).fdiv (2 ^ k)) = ((N / 2 ^ k : Nat) : Int) := by
  rw [Int.fdiv_eq_ediv_of_nonneg _ (by exact Int.le_of_lt (Int.pow_pos (by decide))), Int.natCast_ediv, Int.natCast_pow]; rfl
theorem sh8 (N k : Nat) (b : Nat) (hk : k ≤ b) : IntKind.u8.wrap ((N : Int).fdiv (2 ^ min k b)) = ((byteOf (N / 2 ^ k : Nat)).toNat : Int) := by
  rw [Nat.min_eq_left hk, fdiv_pow, wrap8, byteOf_toNat]
theorem be8_get (N : Nat) : ∀ j, j < 8 → (be8 N)[j]? = some (byteOf (N / 2 ^ (56 - 8 * j) : Nat)) := by
  intro j hj
  have : j = 0 ∨ j = 1 ∨ j = 2 ∨ j = 3 ∨ j = 4 ∨ j = 5 ∨ j = 6 ∨ j = 7 := by omega
  rcases this with rfl | rfl | rfl | rfl | rfl | rfl | rfl | rfl <;> first | rfl | (simp [be8])
theorem take_get {l : List UInt8} {j : Nat} {x : UInt8} (h : l[j]? = some x) : l.take (j + 1) = l.take j ++ [x] := by
  obtain ⟨hj, rfl⟩ := List.getElem?_eq_some_iff.1 h
  exact List.take_succ_eq_append_getElem hj
theorem one_int (k : IntKind) (x : Int) : ∀ u ∈ [Value.int k x], u.oneCell' = true := by
  intro u hu
  rcases List.mem_singleton.1 hu with rfl
  rfl
theorem bCells_snoc (a : List UInt8) (b : UInt8) {x : Int} (h : x = (b.toNat : Int)) : bCells a ++ [.int .u8 x] = bCells (a ++ [b]) := by
  rw [h]; exact bCells_append a [b]
theorem ones4 (k : IntKind) (a b c d : Int) : ∀ u ∈ [Value.int k a, .int k b, .int k c, .int k d], u.oneCell' = true := by
  intro u hu
  simp only [List.mem_cons, List.not_mem_nil, or_false] at hu
  rcases hu with rfl | rfl | rfl | rfl <;> rfl
/-- The sum's bytes, k words on. -/
def outT (s : St8) : Nat → List UInt8
  | 0 => []
  | 1 => be4 s.a
  | 2 => be4 s.a ++ be4 s.b
  | 3 => be4 s.a ++ be4 s.b ++ be4 s.c
  | 4 => be4 s.a ++ be4 s.b ++ be4 s.c ++ be4 s.d
  | 5 => be4 s.a ++ be4 s.b ++ be4 s.c ++ be4 s.d ++ be4 s.e
  | 6 => be4 s.a ++ be4 s.b ++ be4 s.c ++ be4 s.d ++ be4 s.e ++ be4 s.f
  | 7 => be4 s.a ++ be4 s.b ++ be4 s.c ++ be4 s.d ++ be4 s.e ++ be4 s.f ++ be4 s.g
  | _ => be4 s.a ++ be4 s.b ++ be4 s.c ++ be4 s.d ++ be4 s.e ++ be4 s.f ++ be4 s.g ++ be4 s.h
theorem outT_all (s : St8) : outT s 8 = outB s := by unfold outT outB; simp only [List.append_assoc]
theorem be4_cells (x : BitVec 32) : [Value.int .u8 (IntKind.u8.wrap ((u x).fdiv (2 ^ min (Int.toNat 24) IntKind.u32.bits))), .int .u8 (IntKind.u8.wrap ((u x).fdiv (2 ^ min (Int.toNat 16) IntKind.u32.bits))), .int .u8 (IntKind.u8.wrap ((u x).fdiv (2 ^ min (Int.toNat 8) IntKind.u32.bits))), .int .u8 (IntKind.u8.wrap (u x))] = bCells (be4 x) := by
  unfold u
  rw [show Int.toNat 24 = 24 from rfl, show Int.toNat 16 = 16 from rfl, show Int.toNat 8 = 8 from rfl, sh8 _ 24 _ (by decide), sh8 _ 16 _ (by decide), sh8 _ 8 _ (by decide)]
  have : IntKind.u8.wrap (x.toNat : Int) = ((byteOf (x.toNat : Nat)).toNat : Int) := by rw [wrap8, byteOf_toNat]
  rw [this]; rfl
theorem row_out (t : TypeId) (n : Nat) (a : List UInt8) (x : BitVec 32) : SB.row t 1 (n + 4) (bCells a ++ [Value.int .u8 (IntKind.u8.wrap ((u x).fdiv (2 ^ min (Int.toNat 24) IntKind.u32.bits))), .int .u8 (IntKind.u8.wrap ((u x).fdiv (2 ^ min (Int.toNat 16) IntKind.u32.bits))), .int .u8 (IntKind.u8.wrap ((u x).fdiv (2 ^ min (Int.toNat 8) IntKind.u32.bits))), .int .u8 (IntKind.u8.wrap (u x))]) = SB.row t 1 (n + 4) (bCells (a ++ be4 x)) := by
  rw [be4_cells, bCells_append]
theorem sum (m : List UInt8) (H : Hp) (hl : m.length ≤ 1000000000) :
    CallO Tryd.prog 90 [.si (.ce (.ptr 0 0))] H [hBox 1 m, hRow m] fun e _ G' => e = .ret (.si (.ce (.self 2))) ∧ G' = [hBox 1 m, hRow m, .row 5 1 32 (bCells (sha m))] := by
  have hr := rst_length m
  refine CallO.of_bodyW tab Tryd.func90 rfl (nt := Tryd.f90.ntmps) rfl (by kernel_rfl) ?_
  refine W.seqS (codeX_ok tab _ ?_)
  conv => whnf
  refine WS.seqTo tab (fun F H2 G => H.Le H2 ∧ F = [(0, .si (.ce (.ptr 0 0))), (3, .si (.ce (.self 2)))] ∧ G = [hBox 1 m, hRow m, .row 5 1 ((rst m).length + 1) (bCells (rst m ++ [128]))]) ?_ ?_
  · conv => whnf
    refine ⟨by decide, .inl ?_⟩
    intro g H2 hle hrd
    conv => whnf
    refine ⟨bCells_one _, fun h0 => ?_, fun h0 => ?_⟩
    · refine ⟨Nat.le_refl _, ⟨g, 0, rfl⟩, ?_⟩
      conv => whnf
      refine ⟨by decide, .inl ?_⟩
      intro g2 H3 hle2 hrd2
      conv => whnf
      refine ⟨[.int .u8 128], rfl, hrd2, fun u hu => by rcases List.mem_singleton.1 hu with rfl; rfl, fun h => (nomatch h), fun _ => ⟨rfl, [], rfl, hrd.mono hle2, by decide, ?_⟩⟩
      conv => whnf
      refine ⟨_, _, [0, 1, 2], ⟨hle.trans hle2, rfl, rfl⟩, ?_⟩
      refine ⟨rfl, ⟨rfl, rfl, ?_, trivial⟩, rfl, rfl, trivial⟩
      have hnil : rst m = [] := List.eq_nil_of_length_eq_zero h0
      rw [hnil]; rfl
    · refine ⟨rfl, [], rfl, hrd, by show _ * 2 ≤ _; omega, ?_⟩
      conv => whnf
      refine ⟨by decide, .inl ?_⟩
      intro g2 H3 hle2 hrd2
      conv => whnf
      refine ⟨[.int .u8 128], rfl, hrd2, fun u hu => by rcases List.mem_singleton.1 hu with rfl; rfl, ?_⟩
      conv => whnf
      refine ⟨by show _ * 2 ≤ _; omega, ?_⟩
      conv => whnf
      refine ⟨_, _, [0, 1, 3], ⟨hle.trans hle2, rfl, rfl⟩, ?_⟩
      refine ⟨rfl, ⟨rfl, rfl, ?_, trivial⟩, rfl, rfl, trivial⟩
      show SB.row 5 1 (0 + (rst m).length + 1) ([] ++ bCells (rst m) ++ [.int .u8 128]) = SB.row 5 1 ((rst m).length + 1) (bCells (rst m ++ [128]))
      rw [Nat.zero_add, List.nil_append, ← bCells_append]; rfl
  · rintro F H2 G hle ⟨hle', rfl, rfl⟩
    refine codeL.go tab ?_
    conv => whnf
    refine WS.loop (fun k F H3 G => ∃ z : Nat, z ≤ padN (rst m).length ∧ k = padN (rst m).length - z ∧ F = [(0, .si (.ce (.ptr 0 0))), (3, .si (.ce (.self 2)))] ∧ H.Le H3 ∧
        G = [hBox 1 m, hRow m, .row 5 1 ((rst m).length + 1 + z) (bCells (rst m ++ 128 :: List.replicate z 0))]) (padN (rst m).length + 1) ?_ ?_
    · refine ⟨padN (rst m).length, by omega, _, _, [0, 1, 2], ⟨0, by omega, rfl, rfl, hle', rfl⟩, ?_⟩
      exact ⟨rfl, ⟨rfl, rfl, rfl, trivial⟩, rfl, rfl, trivial⟩
    rintro k F H3 G hle3 ⟨z, hz, rfl, rfl, hle4, rfl⟩
    refine codeL.go tab ?_
    conv => whnf
    rw [show (((rst m).length + 1 + z : Nat) : Int).tmod 64 = (((rst m).length + 1 + z) % 64 : Nat) from by rw [Int.tmod_eq_emod_of_nonneg (by omega)]; omega]
    refine ⟨by decide, ?_⟩
    conv => whnf
    have hpn : padN (rst m).length = (119 - (rst m).length % 64) % 64 := rfl
    refine br.of (fun h1 => ?_) (fun h1 => ?_) <;> conv => whnf
    · simp only [bne_iff_ne, ne_eq] at h1
      refine ⟨by decide, .inl ?_⟩
      intro g H4 hle5 hrd
      conv => whnf
      refine ⟨_, rfl, hrd, one_int _ _, ?_⟩
      conv => whnf
      refine ⟨by show _ * 2 ≤ _; omega, ?_⟩
      conv => whnf
      refine ⟨padN (rst m).length - (z + 1), by omega, _, _, [0, 1, 3], ⟨z + 1, by omega, rfl, rfl, hle4.trans hle5, rfl⟩, ?_⟩
      refine ⟨rfl, ⟨rfl, rfl, ?_, trivial⟩, rfl, rfl, trivial⟩
      show SB.row 5 1 ((rst m).length + 1 + z + 1) (bCells (rst m ++ 128 :: List.replicate z 0) ++ [.int .u8 0]) = SB.row 5 1 ((rst m).length + 1 + (z + 1)) (bCells (rst m ++ 128 :: List.replicate (z + 1) 0))
      rw [bCells_snoc _ (0 : UInt8) (x := 0) rfl, List.replicate_succ', List.append_assoc]; rfl
    have hz2 : z = padN (rst m).length := by
      simp only [bne_eq_false_iff_eq] at h1
      omega
    subst hz2
    clear h1 hz
    generalize hT0 : rst m ++ 128 :: List.replicate (padN (rst m).length) 0 = T0
    have hT0l : T0.length = (rst m).length + 1 + padN (rst m).length := by rw [← hT0]; simp; omega
    rw [← hT0l]
    have hTl : tailOf (rst m) m.length = T0 ++ be8 (8 * m.length) := by unfold tailOf; rw [← hT0]; simp
    have hTm := tailOf_mod (rst m) m.length
    rw [hTl] at hTm
    have hb8 : (be8 (8 * m.length)).length = 8 := rfl
    refine WS.loop (fun k F H4 G => ∃ j : Nat, j ≤ 8 ∧ k = 8 - j ∧ F = [(0, .si (.ce (.ptr 0 0))), (3, .si (.ce (.self 2))), (4, pv (.int .i64 (56 - 8 * j)))] ∧ H.Le H4 ∧
        G = [hBox 1 m, hRow m, .row 5 1 (T0.length + j) (bCells (T0 ++ (be8 (8 * m.length)).take j))]) 9 ?_ ?_
    · refine ⟨8, by omega, _, _, [0, 1, 2], ⟨0, by omega, rfl, rfl, hle4, rfl⟩, ?_⟩
      refine ⟨rfl, ⟨rfl, rfl, ?_, trivial⟩, rfl, rfl, rfl, trivial⟩
      rw [List.take_zero, List.append_nil]; rfl
    rintro k F H4 G hle5 ⟨j, hj, rfl, rfl, hle6, rfl⟩
    refine codeL.go tab ?_
    conv => whnf
    refine br.of (fun h1 => ?_) (fun h1 => ?_) <;> conv => whnf
    · simp only [ge_iff_le, decide_eq_true_eq] at h1
      refine ⟨by omega, ?_⟩
      conv => whnf
      refine ⟨by decide, .inl ?_⟩
      intro g H5 hle7 hrd
      conv => whnf
      refine ⟨_, rfl, hrd, one_int _ _, ?_⟩
      conv => whnf
      refine ⟨by show _ * 2 ≤ _; omega, ?_⟩
      conv => whnf
      rw [wrap64 (x := 56 - 8 * (j : Int) - 8) (by omega) (by omega)]
      refine ⟨8 - (j + 1), by omega, _, _, [0, 1, 3], ⟨j + 1, by omega, rfl, rfl, hle6.trans hle7, rfl⟩, ?_⟩
      refine ⟨rfl, ⟨rfl, rfl, ?_, trivial⟩, rfl, rfl, ?_, trivial⟩
      · show SB.row 5 1 (T0.length + j + 1) (bCells (T0 ++ (be8 (8 * m.length)).take j) ++ [.int .u8 _]) = SB.row 5 1 (T0.length + (j + 1)) (bCells (T0 ++ (be8 (8 * m.length)).take (j + 1)))
        rw [take_get (be8_get (8 * m.length) j (by omega)), ← List.append_assoc, ← bCells_snoc _ _ (x := IntKind.u8.wrap ((IntKind.i64.wrap ((m.length : Int) * 8)).fdiv (2 ^ min (Int.toNat (56 - 8 * (j : Int))) IntKind.i64.bits))) ?_]
        · rfl
        · rw [wrap64 (by omega) (by omega), show (m.length : Int) * 8 = ((8 * m.length : Nat) : Int) by omega, show Int.toNat (56 - 8 * (j : Int)) = 56 - 8 * j by omega]
          exact sh8 _ _ _ (by show 56 - 8 * j ≤ 64; omega)
      · show pv _ = pv _
        congr 2; omega
    simp only [ge_iff_le, decide_eq_false_iff_not] at h1
    have hj8 : j = 8 := by omega
    subst hj8
    rw [show T0.length + 8 = (T0 ++ be8 (8 * m.length)).length by rw [List.length_append, hb8], show (be8 (8 * m.length)).take 8 = be8 (8 * m.length) from rfl]
    rw [show sha m = outB (blocks ((T0 ++ be8 (8 * m.length)).length / 64) (hst m) (T0 ++ be8 (8 * m.length))) by rw [← hTl]; exact sha_eq m]
    generalize T0 ++ be8 (8 * m.length) = all at *
    refine WS.loop (fun k F H5 G => ∃ i : Nat, i ≤ all.length / 64 ∧ k = all.length / 64 - i ∧ F = [(3, .si (.ce (.self 2))), (5, .si (.ce (.ptr 3 0)))] ∧ H.Le H5 ∧
        G = [hBox 1 m, hRow m, .row 5 1 (all.drop (64 * i)).length (bCells (all.drop (64 * i))), .box 144 (blocks i (hst m) all).cells]) (all.length / 64 + 1) ?_ ?_
    · refine ⟨all.length / 64, by omega, _, _, [0, 1, 2, 3], ⟨0, by omega, rfl, rfl, hle6, rfl⟩, ?_⟩
      exact ⟨rfl, ⟨rfl, rfl, rfl, rfl, trivial⟩, rfl, rfl, trivial⟩
    rintro k F H5 G hle7 ⟨i, hi, rfl, rfl, hle8, rfl⟩
    have hdl : (all.drop (64 * i)).length = all.length - 64 * i := List.length_drop
    refine codeL.go tab ?_
    conv => whnf
    refine br.of (fun h1 => ?_) (fun h1 => ?_) <;> conv => whnf
    · simp only [gt_iff_lt, decide_eq_true_eq] at h1
      refine ⟨⟨_, Tryd.func118, rfl, by kernel_rfl⟩, CallS.use (compress (blocks i (hst m) all) (all.drop (64 * i)).length (all.drop (64 * i)) (by omega) rfl H5) [2] rfl rfl ⟨rfl, trivial⟩ ?_⟩
      rintro e H' G' hle9 ⟨rfl, rfl, rfl⟩
      conv => whnf
      refine ⟨⟨by omega, by omega⟩, ?_⟩
      conv => whnf
      refine ⟨all.length / 64 - (i + 1), by omega, _, _, [0, 1, 4, 3], ⟨i + 1, by omega, rfl, rfl, hle8, rfl⟩, ?_⟩
      refine ⟨rfl, ⟨rfl, rfl, ?_, ?_, trivial⟩, rfl, rfl, trivial⟩
      · exact row_cut all i
      · rw [blocks_succ]; rfl
    simp only [gt_iff_lt, decide_eq_false_iff_not] at h1
    have hi2 : i = all.length / 64 := by omega
    subst hi2
    generalize blocks (all.length / 64) (hst m) all = S at *
    refine WS.nilRow 6 5 1 rfl ?_
    conv => whnf
    refine WS.loop (fun k F H6 G => ∃ j : Nat, j ≤ 8 ∧ k = 8 - j ∧ F = [(6, .si (.ce (.self 2))), (51, .si (.ag S.cells)), (52, pv (.int .i64 j))] ∧ H.Le H6 ∧
        G = [hBox 1 m, hRow m, .row 5 1 (4 * j) (bCells (outT S j))]) 9 ?_ ?_
    · refine ⟨8, by decide, _, _, [0, 1, 4], ⟨0, by decide, rfl, rfl, hle8, rfl⟩, ?_⟩
      exact ⟨rfl, ⟨rfl, rfl, rfl, trivial⟩, rfl, rfl, rfl, trivial⟩
    clear hTl hTm h1 hdl hi hr
    rintro k F H6 G hle9 ⟨j, hj, rfl, rfl, hle10, rfl⟩
    refine codeL.go tab ?_
    have hj9 : j = 0 ∨ j = 1 ∨ j = 2 ∨ j = 3 ∨ j = 4 ∨ j = 5 ∨ j = 6 ∨ j = 7 ∨ j = 8 := by omega
    rcases hj9 with rfl | rfl | rfl | rfl | rfl | rfl | rfl | rfl | rfl
    all_goals conv => whnf
    all_goals first
      | (show SE.ret _ = _ ∧ _ = _
         exact ⟨rfl, by rw [← outT_all]⟩)
      | (refine ⟨by decide, _, rfl, ?_⟩
         conv => whnf
         iterate 3 (refine ⟨by decide, ?_⟩; conv => whnf)
         refine ⟨by decide, .inl ?_⟩
         intro g H7 hle11 hrd
         conv => whnf
         refine ⟨_, rfl, hrd, ones4 _ _ _ _ _, ?_⟩
         conv => whnf
         refine ⟨by decide, ?_⟩
         conv => whnf
         first | (refine ⟨7, by decide, _, _, [0, 1, 3], ⟨1, by decide, rfl, rfl, hle10.trans hle11, rfl⟩, ?_⟩; refine ⟨rfl, ⟨rfl, rfl, ?_, trivial⟩, rfl, rfl, rfl, trivial⟩) | (refine ⟨6, by decide, _, _, [0, 1, 3], ⟨2, by decide, rfl, rfl, hle10.trans hle11, rfl⟩, ?_⟩; refine ⟨rfl, ⟨rfl, rfl, ?_, trivial⟩, rfl, rfl, rfl, trivial⟩) | (refine ⟨5, by decide, _, _, [0, 1, 3], ⟨3, by decide, rfl, rfl, hle10.trans hle11, rfl⟩, ?_⟩; refine ⟨rfl, ⟨rfl, rfl, ?_, trivial⟩, rfl, rfl, rfl, trivial⟩) | (refine ⟨4, by decide, _, _, [0, 1, 3], ⟨4, by decide, rfl, rfl, hle10.trans hle11, rfl⟩, ?_⟩; refine ⟨rfl, ⟨rfl, rfl, ?_, trivial⟩, rfl, rfl, rfl, trivial⟩) | (refine ⟨3, by decide, _, _, [0, 1, 3], ⟨5, by decide, rfl, rfl, hle10.trans hle11, rfl⟩, ?_⟩; refine ⟨rfl, ⟨rfl, rfl, ?_, trivial⟩, rfl, rfl, rfl, trivial⟩) | (refine ⟨2, by decide, _, _, [0, 1, 3], ⟨6, by decide, rfl, rfl, hle10.trans hle11, rfl⟩, ?_⟩; refine ⟨rfl, ⟨rfl, rfl, ?_, trivial⟩, rfl, rfl, rfl, trivial⟩) | (refine ⟨1, by decide, _, _, [0, 1, 3], ⟨7, by decide, rfl, rfl, hle10.trans hle11, rfl⟩, ?_⟩; refine ⟨rfl, ⟨rfl, rfl, ?_, trivial⟩, rfl, rfl, rfl, trivial⟩) | (refine ⟨0, by decide, _, _, [0, 1, 3], ⟨8, by decide, rfl, rfl, hle10.trans hle11, rfl⟩, ?_⟩; refine ⟨rfl, ⟨rfl, rfl, ?_, trivial⟩, rfl, rfl, rfl, trivial⟩)
         exact row_out _ _ _ _)
end Go.Kx.Sha
