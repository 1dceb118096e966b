/- The reference's SHA-256: the sum. No condition of its own. -/
import Derived.Test.YtdknmcaemebgfaaGreatDoorMV18
namespace Go.Kx.Sha
open Go.Proofs Go.Kx
set_option maxRecDepth 20000
namespace Ref1

def St8.ints (s : St8) : List Value := [iW s.a, iW s.b, iW s.c, iW s.d, iW s.e, iW s.f, iW s.g, iW s.h]
def addI (s t : St8) : Nat → List Value
 | 0 => St8.ints s
 | 1 => St8.ints (St8.mk (s.a + t.a) s.b s.c s.d s.e s.f s.g s.h)
 | 2 => St8.ints (St8.mk (s.a + t.a) (s.b + t.b) s.c s.d s.e s.f s.g s.h)
 | 3 => St8.ints (St8.mk (s.a + t.a) (s.b + t.b) (s.c + t.c) s.d s.e s.f s.g s.h)
 | 4 => St8.ints (St8.mk (s.a + t.a) (s.b + t.b) (s.c + t.c) (s.d + t.d) s.e s.f s.g s.h)
 | 5 => St8.ints (St8.mk (s.a + t.a) (s.b + t.b) (s.c + t.c) (s.d + t.d) (s.e + t.e) s.f s.g s.h)
 | 6 => St8.ints (St8.mk (s.a + t.a) (s.b + t.b) (s.c + t.c) (s.d + t.d) (s.e + t.e) (s.f + t.f) s.g s.h)
 | 7 => St8.ints (St8.mk (s.a + t.a) (s.b + t.b) (s.c + t.c) (s.d + t.d) (s.e + t.e) (s.f + t.f) (s.g + t.g) s.h)
 | _ => St8.ints (s.add t)
def padT (m : List UInt8) (z : Nat) : List UInt8 := m ++ 128 :: List.replicate z 0
theorem padT_length (m : List UInt8) (z : Nat) : (padT m z).length = m.length + 1 + z := by simp [padT]; omega
def LPad (m : List UInt8) (A : Option Addr) (n cap : Nat) (H : Hp) (k : Nat) (F : Fr) (H2 : Hp) (G : List SB) : Prop :=
 ∃ z : Nat, z ≤ padN n ∧ k = padN n - z ∧ F = [(0, pv (.slice A n cap)), (3, .si (.ce (.self 0)))] ∧ H.Le H2 ∧ G = [.row 5 1 (n + 1 + z) (bCells (padT m z))]
theorem tail_cells (m : List UInt8) {n : Nat} (hn : n = m.length) (hl : n ≤ 1000000) : bCells (padT m (padN n)) ++ [Value.int .u8 0, .int .u8 0, .int .u8 0, .int .u8 0] ++ [Value.int .u8 (IntKind.u8.wrap (IntKind.i64.wrap (((8 * n : Nat) : Int).tdiv 16777216))), .int .u8 (IntKind.u8.wrap ((IntKind.i64.wrap (((8 * n : Nat) : Int).tdiv 65536)).tmod 256)),
  .int .u8 (IntKind.u8.wrap ((IntKind.i64.wrap (((8 * n : Nat) : Int).tdiv 256)).tmod 256)), .int .u8 (IntKind.u8.wrap (((8 * n : Nat) : Int).tmod 256))] = bCells (tailOf m m.length) := by
 have e1 : tailOf m m.length = padT m (padN n) ++ be8 (8 * n) := by subst hn; unfold tailOf padT; simp
 rw [e1, ← bCells_append, List.append_assoc]
 congr 1
 have hd : ∀ p : Nat, (((8 * n : Nat) : Int).tdiv (p : Int)) = ((8 * n / p : Nat) : Int) := fun p => by rw [Int.tdiv_eq_ediv_of_nonneg (by omega), ← Int.natCast_ediv]
 have hm : ∀ q : Nat, ((q : Int).tmod 256) = ((q % 256 : Nat) : Int) := fun q => by rw [Int.tmod_eq_emod_of_nonneg (by omega)]; omega
 have hw : ∀ p : Nat, IntKind.i64.wrap ((8 * n / p : Nat) : Int) = ((8 * n / p : Nat) : Int) := fun p => by
  have := Nat.div_le_self (8 * n) p
  generalize 8 * n / p = q at *
  rw [wrap64 (by omega) (by omega)]
 have hb : ∀ q : Nat, IntKind.u8.wrap ((q : Nat) : Int) = ((byteOf (q : Int)).toNat : Int) := fun q => by rw [wrap8, byteOf_toNat]
 have hb2 : ∀ q : Nat, IntKind.u8.wrap ((q % 256 : Nat) : Int) = ((byteOf (q : Int)).toNat : Int) := fun q => by rw [wrap8, byteOf_toNat]; omega
 have h1 : (((8 * n : Nat) : Int).tdiv 16777216) = ((8 * n / 16777216 : Nat) : Int) := hd 16777216
 have h2 : (((8 * n : Nat) : Int).tdiv 65536) = ((8 * n / 65536 : Nat) : Int) := hd 65536
 have h3 : (((8 * n : Nat) : Int).tdiv 256) = ((8 * n / 256 : Nat) : Int) := hd 256
 rw [h1, h2, h3, hw, hw, hw, hm, hm, hm, hb, hb2, hb2, hb2]
 unfold be8
 rw [show 8 * n / 2 ^ 56 = 0 from Nat.div_eq_of_lt (by omega), show 8 * n / 2 ^ 48 = 0 from Nat.div_eq_of_lt (by omega), show 8 * n / 2 ^ 40 = 0 from Nat.div_eq_of_lt (by omega), show 8 * n / 2 ^ 32 = 0 from Nat.div_eq_of_lt (by omega)]
 rfl
theorem BytesAt.cut {H : Hp} {a : Addr} {n : Nat} {bs : List UInt8} (hb : BytesAt H (some a) n bs) {c lo hi : Nat} (h1 : lo < hi) (h2 : hi ≤ n) (h3 : n ≤ c) : ∃ a', subA (some a) c lo 1 = some a' ∧ BytesAt H (some a') (hi - lo) ((bs.drop lo).take (hi - lo)) := by
 obtain ⟨hn, -, hrd⟩ := hb
 obtain ⟨b, o, hab, hrd2⟩ := hrd a rfl
 injection hab with hab
 subst hab
 refine ⟨⟨b, o + lo * 1, none⟩, ?_, ?_⟩
 ·unfold subA
  rw [if_neg (by omega)]
  simp [Addr.add_lit]
 refine BytesAt.lit (by simp; omega) ⟨b, _, rfl, fun j x hx => ?_⟩
 have := hrd2 (lo + j) x (by
  unfold bCells at hx ⊢
  rw [List.getElem?_map] at hx ⊢
  rw [List.getElem?_take] at hx
  split at hx
  ·rw [List.getElem?_drop] at hx; exact hx
  ·cases hx)
 rw [← this]
 congr 1
 omega
theorem compressP_take (x : List UInt8) (s : St8) : compressP (x.take 64) s = compressP x s := by
 refine compressP_ext (fun i hi => ?_) s
 unfold byteN
 rw [List.getD_eq_getElem?_getD, List.getElem?_take, if_pos hi, ← List.getD_eq_getElem?_getD]
theorem ints_one (s : St8) : ∀ u ∈ St8.ints s, u.oneCell' = true := by
 intro u hu
 simp only [St8.ints, List.mem_cons, List.not_mem_nil, or_false] at hu
 rcases hu with rfl | rfl | rfl | rfl | rfl | rfl | rfl | rfl <;> rfl
theorem rdI {H H' : Hp} (h : H.Le H') {a : Addr} {xs : List Value} (hr : RdN H (some a) 0 xs) {k : Nat} {x : Value} (hk : xs[k]? = some x) {off : Nat} (ho : off = k) : RdC H' (some a) off x := by
 subst ho
 obtain ⟨b, o, h1, h2⟩ := hr
 exact ⟨b, o, h1, h _ _ _ (h2 _ _ hk)⟩
theorem rdI0 {H H' : Hp} (h : H.Le H') {a : Addr} {xs : List Value} (hr : RdN H (some a) 0 xs) {x : Value} {off : Nat} (hk : xs[off]? = some x) : RdC H' (some a) off x := rdI h hr hk rfl
theorem kget {t off : Nat} (ht : t < 64) (ho : off = t) : (kTab.map iW)[off]? = some (iW (kAt t)) := by
 subst ho
 have hl : kTab.length = 64 := rfl
 rw [List.getElem?_map, kAt, List.getD_eq_getElem?_getD, List.getElem?_eq_getElem (by omega)]
 rfl
theorem wget64 {bl : List UInt8} {t off : Nat} (ht : t < 64) (ho : off = t) : (iCells (schedN bl 64))[off]? = some (iW (wAt bl t)) := iget ht ho
theorem topT1 (R : St8) (k w : BitVec 32) (H : Hp) : CallO Tryz.prog 124 [pv (.int .i64 (IntKind.i64.wrap (IntKind.i64.wrap (IntKind.i64.wrap (IntKind.i64.wrap (u R.h + u (R.e.rotateRight 6 ^^^ R.e.rotateRight 11 ^^^ R.e.rotateRight 25)) + u ((R.e &&& R.f) ^^^ (~~~ R.e &&& R.g))) + u k) + u w)))] H []
  fun e H' G' => e = .ret (pv (iW (R.t1 k w))) ∧ H' = H ∧ G' = [] := top5 R.h (Sg1 R.e) ((R.e &&& R.f) ^^^ (~~~ R.e &&& R.g)) k w H
theorem topT2 (R : St8) (H : Hp) : CallO Tryz.prog 124 [pv (.int .i64 (IntKind.i64.wrap (u (R.a.rotateRight 2 ^^^ R.a.rotateRight 13 ^^^ R.a.rotateRight 22) + u ((R.a &&& R.b) ^^^ (R.a &&& R.c) ^^^ (R.b &&& R.c)))))] H []
  fun e H' G' => e = .ret (pv (iW R.t2)) ∧ H' = H ∧ G' = [] := top2 (Sg0 R.a) ((R.a &&& R.b) ^^^ (R.a &&& R.c) ^^^ (R.b &&& R.c)) H
def TR (bl : List UInt8) (S0 : St8) (L i : Nat) (a ka : Addr) (c : Nat) (H : Hp) (k : Nat) (F : Fr) (H2 : Hp) (G : List SB) : Prop :=
 ∃ (t : Nat) (sb so cs : Nat), t ≤ 64 ∧ k = 64 - t ∧ F = [(3, pv (.slice (some a) L c)), (5, pv (.slice (some ka) 64 64)), (6, .si (.ce (.self 0))), (7, pv (.int .i64 ((64 * i : Nat) : Int))), (8, .si (.ce (.self 1))), (9, pv (.slice (some ⟨sb, so, none⟩) 8 cs)), (10, pv (.int .i64 t))] ∧ H.Le H2 ∧
  RdN H2 (some ⟨sb, so, none⟩) 0 (St8.ints (rounds bl S0 t)) ∧ G = [.row 3 1 8 (St8.ints S0), .row 3 1 64 (iCells (schedN bl 64))]
theorem be4_cellsI (x : BitVec 32) : [Value.int .u8 (IntKind.u8.wrap (IntKind.i64.wrap ((u x).tdiv 16777216))), .int .u8 (IntKind.u8.wrap ((IntKind.i64.wrap ((u x).tdiv 65536)).tmod 256)), .int .u8 (IntKind.u8.wrap ((IntKind.i64.wrap ((u x).tdiv 256)).tmod 256)), .int .u8 (IntKind.u8.wrap ((u x).tmod 256))] = bCells (be4 x) := by
 have hx := x.isLt
 have hd : ∀ p : Nat, ((x.toNat : Int).tdiv (p : Int)) = ((x.toNat / p : Nat) : Int) := fun p => by rw [Int.tdiv_eq_ediv_of_nonneg (by omega), ← Int.natCast_ediv]
 have hm : ∀ q : Nat, ((q : Int).tmod 256) = ((q % 256 : Nat) : Int) := fun q => by rw [Int.tmod_eq_emod_of_nonneg (by omega)]; omega
 have hw : ∀ p : Nat, IntKind.i64.wrap ((x.toNat / p : Nat) : Int) = ((x.toNat / p : Nat) : Int) := fun p => by
  have := Nat.div_le_self x.toNat p
  generalize x.toNat / p = q at *
  rw [wrap64 (by omega) (by omega)]
 have hb : ∀ q : Nat, IntKind.u8.wrap ((q : Nat) : Int) = ((byteOf (q : Int)).toNat : Int) := fun q => by rw [wrap8, byteOf_toNat]
 have hb2 : ∀ q : Nat, IntKind.u8.wrap ((q % 256 : Nat) : Int) = ((byteOf (q : Int)).toNat : Int) := fun q => by rw [wrap8, byteOf_toNat]; omega
 have h1 : ((x.toNat : Int).tdiv 16777216) = ((x.toNat / 16777216 : Nat) : Int) := hd 16777216
 have h2 : ((x.toNat : Int).tdiv 65536) = ((x.toNat / 65536 : Nat) : Int) := hd 65536
 have h3 : ((x.toNat : Int).tdiv 256) = ((x.toNat / 256 : Nat) : Int) := hd 256
 unfold u
 rw [h1, h2, h3, hw, hw, hw, hm, hm, hm, hb, hb2, hb2, hb2]
 rfl
theorem row_outI (t : TypeId) (n : Nat) (a : List UInt8) (x : BitVec 32) : SB.row t 1 (n + 4) (bCells a ++ [Value.int .u8 (IntKind.u8.wrap (IntKind.i64.wrap ((u x).tdiv 16777216))), .int .u8 (IntKind.u8.wrap ((IntKind.i64.wrap ((u x).tdiv 65536)).tmod 256)), .int .u8 (IntKind.u8.wrap ((IntKind.i64.wrap ((u x).tdiv 256)).tmod 256)), .int .u8 (IntKind.u8.wrap ((u x).tmod 256))]) = SB.row t 1 (n + 4) (bCells (a ++ be4 x)) := by
 rw [be4_cellsI, bCells_append]
def UI (S : St8) (H : Hp) (k : Nat) (F : Fr) (H2 : Hp) (G : List SB) : Prop :=
 ∃ j : Nat, j ≤ 8 ∧ k = 8 - j ∧ F = [(6, .si (.ce (.self 0))), (16, .si (.ce (.self 1))), (17, pv (.int .i64 j))] ∧ H.Le H2 ∧ G = [.row 3 1 8 (St8.ints S), .row 5 1 (4 * j) (bCells (outT S j))]
def JI (S0 R : St8) (L i : Nat) (a ka : Addr) (c : Nat) (sa : Addr) (cs : Nat) (H : Hp) (k : Nat) (F : Fr) (H2 : Hp) (G : List SB) : Prop :=
 ∃ j : Nat, j ≤ 8 ∧ k = 8 - j ∧ F = [(3, pv (.slice (some a) L c)), (5, pv (.slice (some ka) 64 64)), (6, .si (.ce (.self 0))), (7, pv (.int .i64 ((64 * i : Nat) : Int))), (9, pv (.slice (some sa) 8 cs)), (15, pv (.int .i64 j))] ∧ H2 = H ∧ G = [.row 3 1 8 (addI S0 R j)]
theorem addI_all (s t : St8) : addI s t 8 = St8.ints (t.add s) := by
 show St8.ints (s.add t) = _
 unfold St8.add
 simp only [BitVec.add_comm]
def OI (all : List UInt8) (a ka : Addr) (c : Nat) (H : Hp) (k : Nat) (F : Fr) (H2 : Hp) (G : List SB) : Prop :=
 ∃ i : Nat, i ≤ all.length / 64 ∧ k = all.length / 64 - i ∧ F = [(3, pv (.slice (some a) all.length c)), (5, pv (.slice (some ka) 64 64)), (6, .si (.ce (.self 0))), (7, pv (.int .i64 ((64 * i : Nat) : Int)))] ∧ H.Le H2 ∧
  G = [.row 3 1 8 (St8.ints (blocks i init8 all))]
set_option maxHeartbeats 4000000 in
theorem sum0 (m : List UInt8) (A : Option Addr) (n cap : Nat) (H : Hp) (hm : BytesAt H A n m) (hl : n ≤ 1000000) :
  CallO Tryz.prog 87 [pv (.slice A n cap)] H [] fun e _ G' => ∃ xs, e = .ret (.si (.ce (.self 1))) ∧ G' = [.row 3 1 8 xs, .row 5 1 32 (bCells (sha m))] := by
 refine CallO.of_bodyW tab Tryz.func87 rfl (nt := Tryz.f87.ntmps) rfl (by kernel_rfl) ?_
 refine W.seqS (codeX_ok tab _ ?_)
 (conv => whnf)
 refine WS.seqTo tab (fun F H2 G => H.Le H2 ∧ F = [(0, pv (.slice A n cap)), (3, .si (.ce (.self 0)))] ∧ G = [.row 5 1 (n + 1) (bCells (padT m 0))]) ?_ ?_
 ·obtain ⟨hn, hA, hrd⟩ := hm
  (conv => whnf)
  refine ⟨by decide, .inr ⟨rfl, ?_⟩⟩
  (conv => whnf)
  cases A with
  | none =>
   have hm0 := hA rfl
   have hn0 : n = 0 := by rw [hn, hm0]; rfl
   subst hn0
   subst hm0
   (conv => whnf)
   refine ⟨by decide, ?_⟩
   (conv => whnf)
   refine ⟨by decide, .inl ?_⟩
   intro g H2 hle hrd2
   (conv => whnf)
   refine ⟨_, rfl, hrd2, one_int _ _, ?_⟩
   (conv => whnf)
   refine ⟨by decide, ?_⟩
   (conv => whnf)
   refine ⟨_, _, [2], ⟨hle, rfl, rfl⟩, ?_⟩
   exact ⟨rfl, ⟨rfl, trivial⟩, rfl, rfl, trivial⟩
  | some a =>
   (conv => whnf)
   refine ⟨bCells m, by rw [bCells_length, hn]; exact (Nat.mul_one _).symm, hrd a rfl, bCells_one m, ?_⟩
   (conv => whnf)
   refine ⟨by show (0 + n) * 2 ≤ _; omega, ?_⟩
   (conv => whnf)
   refine ⟨by decide, .inl ?_⟩
   intro g H2 hle hrd2
   (conv => whnf)
   refine ⟨_, rfl, hrd2, one_int _ _, ?_⟩
   (conv => whnf)
   refine ⟨by show (0 + n + 1) * 2 ≤ _; omega, ?_⟩
   (conv => whnf)
   refine ⟨_, _, [2], ⟨hle, rfl, rfl⟩, ?_⟩
   refine ⟨rfl, ⟨?_, trivial⟩, rfl, rfl, trivial⟩
   show SB.row 5 1 (0 + n + 1) (([] ++ bCells m) ++ bCells [128]) = SB.row 5 1 (n + 1) (bCells (padT m 0))
   rw [List.nil_append, bCells_append, Nat.zero_add]
   rfl
 ·rintro F H2 G hle ⟨hle2, rfl, rfl⟩
  refine codeL.go tab ?_
  (conv => whnf)
  refine WS.loop (LPad m A n cap H) 65 ?_ ?_
  ·refine ⟨padN n, by unfold padN; omega, _, _, [0], ⟨0, by omega, rfl, rfl, hle2, rfl⟩, ?_⟩
   exact ⟨rfl, ⟨rfl, trivial⟩, rfl, rfl, trivial⟩
  rintro k F H3 G hle3 ⟨z, hz, rfl, rfl, hle4, rfl⟩
  refine codeL.go tab ?_
  (conv => whnf)
  have hn := hm.1
  refine ⟨by decide, ?_⟩
  (conv => whnf)
  have e64 : Int.tmod ((n + 1 + z : Nat) : Int) 64 = (((n + 1 + z) % 64 : Nat) : Int) := by rw [Int.tmod_eq_emod_of_nonneg (by omega)]; omega
  rw [e64]
  refine br.of (fun h1 => ?_) (fun h1 => ?_) <;> (conv => whnf)
  ·simp only [bne_iff_ne, ne_eq] at h1
   have h2 : z < padN n := by unfold padN at *; omega
   refine ⟨by decide, .inl ?_⟩
   intro g H4 hle5 hrd2
   (conv => whnf)
   refine ⟨_, rfl, hrd2, one_int _ _, ?_⟩
   (conv => whnf)
   refine ⟨by show _ * 2 ≤ _; unfold padN at *; omega, ?_⟩
   (conv => whnf)
   refine ⟨padN n - (z + 1), by omega, _, _, [1], ⟨z + 1, by omega, rfl, rfl, hle4.trans hle5, rfl⟩, ?_⟩
   refine ⟨rfl, ⟨?_, trivial⟩, rfl, rfl, trivial⟩
   show SB.row 5 1 (n + 1 + z + 1) (bCells (padT m z) ++ bCells [0]) = SB.row 5 1 (n + 1 + (z + 1)) (bCells (padT m (z + 1)))
   rw [bCells_append]
   unfold padT
   rw [List.replicate_succ', List.append_assoc]
   rfl
  ·simp only [bne_eq_false_iff_eq] at h1
   have h2 : z = padN n := by unfold padN at *; omega
   subst h2
   refine ⟨by decide, .inl ?_⟩
   intro g H4 hle5 hrd2
   (conv => whnf)
   refine ⟨_, rfl, hrd2, ones4 _ _ _ _ _, ?_⟩
   (conv => whnf)
   refine ⟨by show _ * 2 ≤ _; unfold padN at *; omega, ?_⟩
   (conv => whnf)
   rw [wrap64 (x := 8 * (n : Int)) (by omega) (by omega), show 8 * (n : Int) = ((8 * n : Nat) : Int) by omega]
   iterate 6 (refine ⟨by decide, ?_⟩; (conv => whnf))
   refine ⟨by decide, .inl ?_⟩
   intro g2 H5 hle6 hrd3
   (conv => whnf)
   refine ⟨_, rfl, hrd3, ones4 _ _ _ _ _, ?_⟩
   (conv => whnf)
   refine ⟨by show _ * 2 ≤ _; unfold padN at *; omega, ?_⟩
   (conv => whnf)
   refine ⟨⟨_, Tryz.func121, rfl, by kernel_rfl⟩, CallS.use (keys_ _) [] rfl rfl trivial ?_⟩
   rintro e H6 G' hle7 ⟨⟨ka, rfl, hk⟩, rfl⟩
   (conv => whnf)
   refine ⟨⟨_, Tryz.func122, rfl, by kernel_rfl⟩, CallS.use (first_ _) [] rfl rfl trivial ?_⟩
   rintro e H7 G' hle8 ⟨rfl, rfl, rfl⟩
   (conv => whnf)
   have hal : (tailOf m m.length).length = n + 1 + padN n + 4 + 4 := by rw [tailOf_length, hn]
   have hmod := tailOf_mod m m.length
   refine WS.frz 2 (t := 5) (sz := 1) (m := (tailOf m m.length).length) (xs := bCells (tailOf m m.length)) ?_ ?_ ?_
   ·show some (SB.row 5 1 (n + 1 + padN n + 4 + 4) _) = _
    rw [tail_cells m hn hl, hal]
   ·intro h0; omega
   intro x H8 hle9 hfr
   rw [show sha m = outB (blocks ((tailOf m m.length).length / 64) init8 (tailOf m m.length)) by unfold sha hst; rfl]
   have hpn : padN n < 64 := by unfold padN; omega
   generalize tailOf m m.length = all at *
   obtain ⟨a, c, rfl, hc, hb⟩ : ∃ a c, x = .slice (some a) all.length c ∧ all.length ≤ c ∧ BytesAt H8 (some a) all.length all := by
    rcases hfr with ⟨_, h0, _⟩ | ⟨g, o, c, rfl, h1, h2⟩
    ·omega
    ·exact ⟨_, c, rfl, h1, BytesAt.lit rfl h2⟩
   refine WS.loop (OI all a ka c H8) (all.length / 64 + 1) ?_ ?_
   ·refine ⟨all.length / 64, by omega, _, _, [3], ⟨0, by omega, rfl, rfl, .refl _, rfl⟩, ?_⟩
    exact ⟨rfl, ⟨rfl, trivial⟩, rfl, rfl, rfl, rfl, trivial⟩
   rintro k F H9 G hle10 ⟨i, hi, rfl, rfl, hle11, rfl⟩
   refine codeL.go tab ?_
   (conv => whnf)
   refine br.of (fun h3 => ?_) (fun h3 => ?_) <;> (conv => whnf)
   ·simp only [decide_eq_true_eq] at h3
    rw [wrap64 (x := ((64 * i : Nat) : Int) + 64) (by omega) (by omega), show ((64 * i : Nat) : Int) + 64 = ((64 * (i + 1) : Nat) : Int) by omega]
    refine ⟨by omega, ?_⟩
    (conv => whnf)
    obtain ⟨a', ha', hb'⟩ := (BytesAt.cut (hb.mono hle11) (c := c) (lo := 64 * i) (hi := 64 * (i + 1)) (by omega) (by omega) hc)
    generalize hS : subA (some a) c _ _ = S
    rw [Int.toNat_natCast] at hS
    obtain rfl : S = some a' := hS.symm.trans ha'
    rw [Int.toNat_natCast, Int.toNat_natCast, show 64 * (i + 1) - 64 * i = 64 by omega]
    rw [show 64 * (i + 1) - 64 * i = 64 by omega] at hb'
    have hbl := blocks_succ i init8 all
    rw [← compressP_take] at hbl
    generalize (all.drop (64 * i)).take 64 = bl at *
    generalize blocks i init8 all = S0 at *
    refine ⟨⟨_, Tryz.func123, rfl, by kernel_rfl⟩, CallS.use (schedule bl a' _ _ hb') [] rfl rfl trivial ?_⟩
    rintro e H10 G' hle12 ⟨rfl, rfl⟩
    (conv => whnf)
    refine ⟨by decide, .inl ?_⟩
    intro g3 H11 hle13 hrd4
    (conv => whnf)
    refine ⟨ints_one S0, ?_⟩
    (conv => whnf)
    refine ⟨fun h => (nomatch h), fun _ => ⟨rfl, [], rfl, hrd4, by decide, ?_⟩⟩
    (conv => whnf)
    refine WS.frz 2 (t := 3) (sz := 1) (m := 8) (xs := St8.ints S0) rfl (fun h => (nomatch h)) ?_
    intro x H12 hle14 hfr2
    obtain ⟨sb, so, cs, rfl, hsr⟩ : ∃ sb so cs, x = .slice (some ⟨sb, so, none⟩) 8 cs ∧ RdN H12 (some ⟨sb, so, none⟩) 0 (St8.ints S0) := by
     rcases hfr2 with ⟨_, h0, _⟩ | ⟨g, o, c, rfl, h1, h2⟩
     ·cases h0
     ·exact ⟨_, _, c, rfl, h2⟩
    refine WS.loop (TR bl S0 all.length i a ka c H12) 65 ?_ ?_
    ·refine ⟨64, by omega, _, _, [0, 1], ⟨0, sb, so, cs, by omega, rfl, rfl, .refl _, hsr, rfl⟩, ?_⟩
     exact ⟨rfl, ⟨rfl, rfl, trivial⟩, rfl, rfl, rfl, rfl, rfl, rfl, rfl, trivial⟩
    rintro k F H13 G hle15 ⟨t, sb, so, cs, ht, rfl, rfl, hle16, hsr, rfl⟩
    refine codeL.go tab ?_
    (conv => whnf)
    refine br.of (fun h4 => ?_) (fun h4 => ?_) <;> (conv => whnf)
    ·simp only [decide_eq_true_eq] at h4
     have hk13 : RdN H13 (some ka) 0 (kTab.map iW) := hk.mono ((((((hle8.trans hle9).trans hle11).trans hle12).trans hle13).trans hle14).trans hle16)
     obtain ⟨kb, ko, hka, -⟩ := id hk13
     have hR1 : rounds bl S0 (t + 1) = ⟨(rounds bl S0 t).t1 (kAt t) (wAt bl t) + (rounds bl S0 t).t2, (rounds bl S0 t).a, (rounds bl S0 t).b, (rounds bl S0 t).c, (rounds bl S0 t).d + (rounds bl S0 t).t1 (kAt t) (wAt bl t), (rounds bl S0 t).e, (rounds bl S0 t).f, (rounds bl S0 t).g⟩ := rfl
     generalize rounds bl S0 t = R at *
     refine ⟨by decide, ⟨sb, so, rfl⟩, ?_⟩; (conv => whnf)
     refine ⟨_, rdI0 (.refl _) hsr rfl, ?_⟩; (conv => whnf)
     refine ⟨by decide, ⟨sb, so, rfl⟩, ?_⟩; (conv => whnf)
     refine ⟨_, rdI0 (.refl _) hsr rfl, ?_⟩; (conv => whnf)
     refine WS.draw tab mixed (.take 0 (.take 1 (.take 2 (.take 3 (.take 5 (.take 8 (.take 12 (.take 13 (.take 14 (.take 15 (.take 16 (.take 17 (.take 18 (.take 19 (.take 20 (.take 21 (.take 22 (.take 23 (.take 25 (.take 26 (.take 27 (.take 28 (.take 30 (.take 31 (.take 32 (.take 33 (.alt 4 (.alt 6 (.take 7 (.alt 9 (.take 10 (.take 11 (.take 24 (.take 29 (.take 34 (.alt 35 (.take 36 .done) .no)))))) .no)) .no) .no))))))))))))))))))))))))))) (by kernel_rfl) [] ?_
     (conv => whnf)
     have h64 : (t : Int) < (64 : Nat) := h4
     have h4' : t < 64 := by omega
     repeat' (first
      | (refine ⟨by decide, ⟨sb, so, rfl⟩, ?_⟩; (conv => whnf))
      | (refine ⟨⟨by omega, h64⟩, ⟨kb, ko, hka⟩, ?_⟩; (conv => whnf))
      | (refine ⟨⟨by omega, h64⟩, ?_⟩; (conv => whnf))
      | (refine ⟨_, rdI0 (.refl _) hsr rfl, ?_⟩; (conv => whnf))
      | (refine ⟨_, rdI (.refl _) hk13 (k := t) (kget h4' rfl) (by simp), ?_⟩; (conv => whnf))
      | (refine ⟨_, wget64 h4' (by simp), ?_⟩; (conv => whnf)))
     refine ⟨⟨⟨_, Tryz.func125, rfl, by kernel_rfl⟩, CallS.use (turn R.e 6 (by decide) (by decide) _) [] rfl rfl trivial ?_⟩, trivial⟩
     rintro e H' G' hle ⟨rfl, rfl, rfl⟩
     (conv => whnf)
     refine ⟨⟨rfl, rfl, trivial⟩, ?_⟩
     (conv => whnf)
     refine ⟨⟨⟨_, Tryz.func125, rfl, by kernel_rfl⟩, CallS.use (turn R.e 11 (by decide) (by decide) _) [] rfl rfl trivial ?_⟩, trivial⟩
     rintro e H' G' hle ⟨rfl, rfl, rfl⟩
     (conv => whnf)
     refine ⟨⟨rfl, rfl, trivial⟩, ?_⟩
     (conv => whnf)
     refine ⟨⟨⟨_, Tryz.func125, rfl, by kernel_rfl⟩, CallS.use (turn R.e 25 (by decide) (by decide) _) [] rfl rfl trivial ?_⟩, trivial⟩
     rintro e H' G' hle ⟨rfl, rfl, rfl⟩
     (conv => whnf)
     refine ⟨⟨rfl, rfl, trivial⟩, ?_⟩
     (conv => whnf)
     simp only [i_xor, i_and, i_not]
     refine ⟨⟨⟨_, Tryz.func124, rfl, by kernel_rfl⟩, CallS.use (topT1 R (kAt t) (wAt bl t) _) [] rfl rfl trivial ?_⟩, trivial⟩
     rintro e H' G' hle ⟨rfl, rfl, rfl⟩
     (conv => whnf)
     refine ⟨⟨rfl, rfl, trivial⟩, ?_⟩
     (conv => whnf)
     refine WS.draw tab mixed (.take 0 (.take 2 (.take 5 (.take 8 (.take 9 (.take 10 (.take 11 (.take 12 (.take 13 (.take 14 (.take 15 (.take 16 (.take 17 (.take 18 (.take 19 (.take 20 (.take 21 (.take 22 (.take 23 (.take 24 (.take 25 (.take 26 (.alt 1 (.alt 3 (.take 4 (.alt 6 (.take 7 (.take 27 (.alt 28 (.take 29 .done) .no))) .no)) .no) .no))))))))))))))))))))))) (by kernel_rfl) [] ?_
     (conv => whnf)
     repeat' (first
      | (refine ⟨by decide, ⟨sb, so, rfl⟩, ?_⟩; (conv => whnf))
      | (refine ⟨⟨by omega, h64⟩, ⟨kb, ko, hka⟩, ?_⟩; (conv => whnf))
      | (refine ⟨⟨by omega, h64⟩, ?_⟩; (conv => whnf))
      | (refine ⟨_, rdI0 (.refl _) hsr rfl, ?_⟩; (conv => whnf))
      | (refine ⟨_, rdI (.refl _) hk13 (k := t) (kget h4' rfl) (by simp), ?_⟩; (conv => whnf))
      | (refine ⟨_, wget64 h4' (by simp), ?_⟩; (conv => whnf)))
     refine ⟨⟨⟨_, Tryz.func125, rfl, by kernel_rfl⟩, CallS.use (turn R.a 2 (by decide) (by decide) _) [] rfl rfl trivial ?_⟩, trivial⟩
     rintro e H' G' hle ⟨rfl, rfl, rfl⟩
     (conv => whnf)
     refine ⟨⟨rfl, rfl, trivial⟩, ?_⟩
     (conv => whnf)
     refine ⟨⟨⟨_, Tryz.func125, rfl, by kernel_rfl⟩, CallS.use (turn R.a 13 (by decide) (by decide) _) [] rfl rfl trivial ?_⟩, trivial⟩
     rintro e H' G' hle ⟨rfl, rfl, rfl⟩
     (conv => whnf)
     refine ⟨⟨rfl, rfl, trivial⟩, ?_⟩
     (conv => whnf)
     refine ⟨⟨⟨_, Tryz.func125, rfl, by kernel_rfl⟩, CallS.use (turn R.a 22 (by decide) (by decide) _) [] rfl rfl trivial ?_⟩, trivial⟩
     rintro e H' G' hle ⟨rfl, rfl, rfl⟩
     (conv => whnf)
     refine ⟨⟨rfl, rfl, trivial⟩, ?_⟩
     (conv => whnf)
     simp only [i_xor, i_and]
     refine ⟨⟨⟨_, Tryz.func124, rfl, by kernel_rfl⟩, CallS.use (topT2 R _) [] rfl rfl trivial ?_⟩, trivial⟩
     rintro e H' G' hle ⟨rfl, rfl, rfl⟩
     (conv => whnf)
     refine ⟨⟨rfl, rfl, trivial⟩, ?_⟩
     (conv => whnf)
     refine WS.draw tab mixed (.take 0 (.take 1 (.take 2 (.take 4 (.take 5 (.take 6 (.take 7 (.take 8 (.take 9 (.take 10 (.take 11 (.take 12 (.take 13 (.take 14 (.take 15 (.take 16 (.take 17 (.take 19 (.take 20 (.take 21 (.take 22 (.take 23 (.take 24 (.take 25 (.take 26 (.take 27 (.alt 3 (.alt 18 (.alt 28 (.take 29 .done) .no) .no) .no))))))))))))))))))))))))))) (by kernel_rfl) [] ?_
     (conv => whnf)
     repeat' (first
      | (refine ⟨by decide, ⟨sb, so, rfl⟩, ?_⟩; (conv => whnf))
      | (refine ⟨⟨by omega, h64⟩, ⟨kb, ko, hka⟩, ?_⟩; (conv => whnf))
      | (refine ⟨⟨by omega, h64⟩, ?_⟩; (conv => whnf))
      | (refine ⟨_, rdI0 (.refl _) hsr rfl, ?_⟩; (conv => whnf))
      | (refine ⟨_, rdI (.refl _) hk13 (k := t) (kget h4' rfl) (by simp), ?_⟩; (conv => whnf))
      | (refine ⟨_, wget64 h4' (by simp), ?_⟩; (conv => whnf)))
     generalize R.t1 (kAt t) (wAt bl t) = x1 at *
     generalize R.t2 = x2 at *
     repeat' (first
      | exact trivial
      | exact rfl
      | exact ⟨_, Tryz.func124, rfl, by kernel_rfl⟩
      | (refine CallS.use (top2 x1 x2 _) [] rfl rfl trivial ?_; rintro e H' G' hle ⟨rfl, rfl, rfl⟩; (conv => whnf))
      | (refine CallS.use (top2 R.d x1 _) [] rfl rfl trivial ?_; rintro e H' G' hle ⟨rfl, rfl, rfl⟩; (conv => whnf))
      | (refine ⟨by decide, .inl ?_⟩; intro g4 H14 hle17 hrd5; (conv => whnf))
      | (refine And.intro ?_ ?_ <;> (conv => whnf)))
     all_goals
      rw [wrap64 (x := (t : Int) + 1) (by omega) (by omega)]
      refine ⟨64 - (t + 1), by omega, _, _, [0, 1], ⟨t + 1, g4, 0, 8, by omega, rfl, rfl, hle16.trans hle17, ?_, rfl⟩, ?_⟩
      ·rw [hR1]; exact hrd5
      ·exact ⟨rfl, ⟨rfl, rfl, trivial⟩, rfl, rfl, rfl, rfl, rfl, rfl, rfl, trivial⟩
    ·simp only [decide_eq_false_iff_not] at h4
     obtain rfl : t = 64 := by omega
     rw [show compressP bl S0 = (rounds bl S0 64).add S0 from rfl] at hbl
     generalize rounds bl S0 64 = R at *
     refine WS.loop (JI S0 R all.length i a ka c ⟨sb, so, none⟩ cs H13) 9 ?_ ?_
     ·refine ⟨8, by omega, _, _, [0], ⟨0, by omega, rfl, rfl, rfl, rfl⟩, ?_⟩
      exact ⟨rfl, ⟨rfl, trivial⟩, rfl, rfl, rfl, rfl, rfl, rfl, trivial⟩
     rintro k F H14 G hle17 ⟨j, hj, rfl, rfl, rfl, rfl⟩
     refine codeL.go tab ?_
     have hj9 : j = 0 ∨ j = 1 ∨ j = 2 ∨ j = 3 ∨ j = 4 ∨ j = 5 ∨ j = 6 ∨ j = 7 ∨ j = 8 := by omega
     rcases hj9 with rfl | rfl | rfl | rfl | rfl | rfl | rfl | rfl | rfl
     ·(conv => whnf)
      refine WS.draw tab mixed (.take 0 (.take 1 (.take 2 (.take 3 (.take 6 (.take 7 (.take 8 (.take 9 (.alt 4 (.alt 5 (.take 10 (.alt 11 (.alt 12 (.alt 13 .done .no) .no) .no)) .no) .no))))))))) (by kernel_rfl) [0] ?_
      (conv => whnf)
      repeat' (first
       | exact trivial
       | exact rfl
       | exact ⟨_, Tryz.func124, rfl, by kernel_rfl⟩
       | (refine ⟨by decide, ⟨sb, so, rfl⟩, ?_⟩; (conv => whnf))
       | (refine ⟨_, rdI0 (.refl _) hsr rfl, ?_⟩; (conv => whnf))
       | (refine ⟨by decide, ?_⟩; (conv => whnf))
       | (refine ⟨_, rfl, ?_⟩; (conv => whnf))
       | (refine CallS.use (top2 S0.a R.a _) [] rfl rfl trivial ?_; rintro e H' G' hle ⟨rfl, rfl, rfl⟩; (conv => whnf))
       | (refine ⟨7, by decide, _, _, [0], ⟨1, by decide, rfl, rfl, rfl, rfl⟩, ?_⟩; exact ⟨rfl, ⟨rfl, trivial⟩, rfl, rfl, rfl, rfl, rfl, rfl, trivial⟩)
       | exact Nat.le_of_ble_eq_true rfl
       | (refine And.intro ?_ ?_ <;> (conv => whnf)))
     ·(conv => whnf)
      refine WS.draw tab mixed (.take 0 (.take 1 (.take 2 (.take 3 (.take 6 (.take 7 (.take 8 (.take 9 (.alt 4 (.alt 5 (.take 10 (.alt 11 (.alt 12 (.alt 13 .done .no) .no) .no)) .no) .no))))))))) (by kernel_rfl) [0] ?_
      (conv => whnf)
      repeat' (first
       | exact trivial
       | exact rfl
       | exact ⟨_, Tryz.func124, rfl, by kernel_rfl⟩
       | (refine ⟨by decide, ⟨sb, so, rfl⟩, ?_⟩; (conv => whnf))
       | (refine ⟨_, rdI0 (.refl _) hsr rfl, ?_⟩; (conv => whnf))
       | (refine ⟨by decide, ?_⟩; (conv => whnf))
       | (refine ⟨_, rfl, ?_⟩; (conv => whnf))
       | (refine CallS.use (top2 S0.b R.b _) [] rfl rfl trivial ?_; rintro e H' G' hle ⟨rfl, rfl, rfl⟩; (conv => whnf))
       | (refine ⟨6, by decide, _, _, [0], ⟨2, by decide, rfl, rfl, rfl, rfl⟩, ?_⟩; exact ⟨rfl, ⟨rfl, trivial⟩, rfl, rfl, rfl, rfl, rfl, rfl, trivial⟩)
       | exact Nat.le_of_ble_eq_true rfl
       | (refine And.intro ?_ ?_ <;> (conv => whnf)))
     ·(conv => whnf)
      refine WS.draw tab mixed (.take 0 (.take 1 (.take 2 (.take 3 (.take 6 (.take 7 (.take 8 (.take 9 (.alt 4 (.alt 5 (.take 10 (.alt 11 (.alt 12 (.alt 13 .done .no) .no) .no)) .no) .no))))))))) (by kernel_rfl) [0] ?_
      (conv => whnf)
      repeat' (first
       | exact trivial
       | exact rfl
       | exact ⟨_, Tryz.func124, rfl, by kernel_rfl⟩
       | (refine ⟨by decide, ⟨sb, so, rfl⟩, ?_⟩; (conv => whnf))
       | (refine ⟨_, rdI0 (.refl _) hsr rfl, ?_⟩; (conv => whnf))
       | (refine ⟨by decide, ?_⟩; (conv => whnf))
       | (refine ⟨_, rfl, ?_⟩; (conv => whnf))
       | (refine CallS.use (top2 S0.c R.c _) [] rfl rfl trivial ?_; rintro e H' G' hle ⟨rfl, rfl, rfl⟩; (conv => whnf))
       | (refine ⟨5, by decide, _, _, [0], ⟨3, by decide, rfl, rfl, rfl, rfl⟩, ?_⟩; exact ⟨rfl, ⟨rfl, trivial⟩, rfl, rfl, rfl, rfl, rfl, rfl, trivial⟩)
       | exact Nat.le_of_ble_eq_true rfl
       | (refine And.intro ?_ ?_ <;> (conv => whnf)))
     ·(conv => whnf)
      refine WS.draw tab mixed (.take 0 (.take 1 (.take 2 (.take 3 (.take 6 (.take 7 (.take 8 (.take 9 (.alt 4 (.alt 5 (.take 10 (.alt 11 (.alt 12 (.alt 13 .done .no) .no) .no)) .no) .no))))))))) (by kernel_rfl) [0] ?_
      (conv => whnf)
      repeat' (first
       | exact trivial
       | exact rfl
       | exact ⟨_, Tryz.func124, rfl, by kernel_rfl⟩
       | (refine ⟨by decide, ⟨sb, so, rfl⟩, ?_⟩; (conv => whnf))
       | (refine ⟨_, rdI0 (.refl _) hsr rfl, ?_⟩; (conv => whnf))
       | (refine ⟨by decide, ?_⟩; (conv => whnf))
       | (refine ⟨_, rfl, ?_⟩; (conv => whnf))
       | (refine CallS.use (top2 S0.d R.d _) [] rfl rfl trivial ?_; rintro e H' G' hle ⟨rfl, rfl, rfl⟩; (conv => whnf))
       | (refine ⟨4, by decide, _, _, [0], ⟨4, by decide, rfl, rfl, rfl, rfl⟩, ?_⟩; exact ⟨rfl, ⟨rfl, trivial⟩, rfl, rfl, rfl, rfl, rfl, rfl, trivial⟩)
       | exact Nat.le_of_ble_eq_true rfl
       | (refine And.intro ?_ ?_ <;> (conv => whnf)))
     ·(conv => whnf)
      refine WS.draw tab mixed (.take 0 (.take 1 (.take 2 (.take 3 (.take 6 (.take 7 (.take 8 (.take 9 (.alt 4 (.alt 5 (.take 10 (.alt 11 (.alt 12 (.alt 13 .done .no) .no) .no)) .no) .no))))))))) (by kernel_rfl) [0] ?_
      (conv => whnf)
      repeat' (first
       | exact trivial
       | exact rfl
       | exact ⟨_, Tryz.func124, rfl, by kernel_rfl⟩
       | (refine ⟨by decide, ⟨sb, so, rfl⟩, ?_⟩; (conv => whnf))
       | (refine ⟨_, rdI0 (.refl _) hsr rfl, ?_⟩; (conv => whnf))
       | (refine ⟨by decide, ?_⟩; (conv => whnf))
       | (refine ⟨_, rfl, ?_⟩; (conv => whnf))
       | (refine CallS.use (top2 S0.e R.e _) [] rfl rfl trivial ?_; rintro e H' G' hle ⟨rfl, rfl, rfl⟩; (conv => whnf))
       | (refine ⟨3, by decide, _, _, [0], ⟨5, by decide, rfl, rfl, rfl, rfl⟩, ?_⟩; exact ⟨rfl, ⟨rfl, trivial⟩, rfl, rfl, rfl, rfl, rfl, rfl, trivial⟩)
       | exact Nat.le_of_ble_eq_true rfl
       | (refine And.intro ?_ ?_ <;> (conv => whnf)))
     ·(conv => whnf)
      refine WS.draw tab mixed (.take 0 (.take 1 (.take 2 (.take 3 (.take 6 (.take 7 (.take 8 (.take 9 (.alt 4 (.alt 5 (.take 10 (.alt 11 (.alt 12 (.alt 13 .done .no) .no) .no)) .no) .no))))))))) (by kernel_rfl) [0] ?_
      (conv => whnf)
      repeat' (first
       | exact trivial
       | exact rfl
       | exact ⟨_, Tryz.func124, rfl, by kernel_rfl⟩
       | (refine ⟨by decide, ⟨sb, so, rfl⟩, ?_⟩; (conv => whnf))
       | (refine ⟨_, rdI0 (.refl _) hsr rfl, ?_⟩; (conv => whnf))
       | (refine ⟨by decide, ?_⟩; (conv => whnf))
       | (refine ⟨_, rfl, ?_⟩; (conv => whnf))
       | (refine CallS.use (top2 S0.f R.f _) [] rfl rfl trivial ?_; rintro e H' G' hle ⟨rfl, rfl, rfl⟩; (conv => whnf))
       | (refine ⟨2, by decide, _, _, [0], ⟨6, by decide, rfl, rfl, rfl, rfl⟩, ?_⟩; exact ⟨rfl, ⟨rfl, trivial⟩, rfl, rfl, rfl, rfl, rfl, rfl, trivial⟩)
       | exact Nat.le_of_ble_eq_true rfl
       | (refine And.intro ?_ ?_ <;> (conv => whnf)))
     ·(conv => whnf)
      refine WS.draw tab mixed (.take 0 (.take 1 (.take 2 (.take 3 (.take 6 (.take 7 (.take 8 (.take 9 (.alt 4 (.alt 5 (.take 10 (.alt 11 (.alt 12 (.alt 13 .done .no) .no) .no)) .no) .no))))))))) (by kernel_rfl) [0] ?_
      (conv => whnf)
      repeat' (first
       | exact trivial
       | exact rfl
       | exact ⟨_, Tryz.func124, rfl, by kernel_rfl⟩
       | (refine ⟨by decide, ⟨sb, so, rfl⟩, ?_⟩; (conv => whnf))
       | (refine ⟨_, rdI0 (.refl _) hsr rfl, ?_⟩; (conv => whnf))
       | (refine ⟨by decide, ?_⟩; (conv => whnf))
       | (refine ⟨_, rfl, ?_⟩; (conv => whnf))
       | (refine CallS.use (top2 S0.g R.g _) [] rfl rfl trivial ?_; rintro e H' G' hle ⟨rfl, rfl, rfl⟩; (conv => whnf))
       | (refine ⟨1, by decide, _, _, [0], ⟨7, by decide, rfl, rfl, rfl, rfl⟩, ?_⟩; exact ⟨rfl, ⟨rfl, trivial⟩, rfl, rfl, rfl, rfl, rfl, rfl, trivial⟩)
       | exact Nat.le_of_ble_eq_true rfl
       | (refine And.intro ?_ ?_ <;> (conv => whnf)))
     ·(conv => whnf)
      refine WS.draw tab mixed (.take 0 (.take 1 (.take 2 (.take 3 (.take 6 (.take 7 (.take 8 (.take 9 (.alt 4 (.alt 5 (.take 10 (.alt 11 (.alt 12 (.alt 13 .done .no) .no) .no)) .no) .no))))))))) (by kernel_rfl) [0] ?_
      (conv => whnf)
      repeat' (first
       | exact trivial
       | exact rfl
       | exact ⟨_, Tryz.func124, rfl, by kernel_rfl⟩
       | (refine ⟨by decide, ⟨sb, so, rfl⟩, ?_⟩; (conv => whnf))
       | (refine ⟨_, rdI0 (.refl _) hsr rfl, ?_⟩; (conv => whnf))
       | (refine ⟨by decide, ?_⟩; (conv => whnf))
       | (refine ⟨_, rfl, ?_⟩; (conv => whnf))
       | (refine CallS.use (top2 S0.h R.h _) [] rfl rfl trivial ?_; rintro e H' G' hle ⟨rfl, rfl, rfl⟩; (conv => whnf))
       | (refine ⟨0, by decide, _, _, [0], ⟨8, by decide, rfl, rfl, rfl, rfl⟩, ?_⟩; exact ⟨rfl, ⟨rfl, trivial⟩, rfl, rfl, rfl, rfl, rfl, rfl, trivial⟩)
       | exact Nat.le_of_ble_eq_true rfl
       | (refine And.intro ?_ ?_ <;> (conv => whnf)))
     ·(conv => whnf)
      rw [wrap64 (x := ((64 * i : Nat) : Int) + 64) (by omega) (by omega), show ((64 * i : Nat) : Int) + 64 = ((64 * (i + 1) : Nat) : Int) by omega]
      refine ⟨all.length / 64 - (i + 1), by omega, _, _, [0], ⟨i + 1, by omega, rfl, rfl, ?_, rfl⟩, ?_⟩
      ·exact (((hle11.trans hle12).trans hle13).trans hle14).trans hle16
      ·refine ⟨rfl, ⟨?_, trivial⟩, rfl, rfl, rfl, rfl, trivial⟩
       rw [hbl, addI_all]
       rfl
   ·simp only [decide_eq_false_iff_not] at h3
    have hi2 : i = all.length / 64 := by omega
    subst hi2
    generalize blocks (all.length / 64) init8 all = S at *
    refine WS.nilRow 16 5 1 rfl ?_
    (conv => whnf)
    refine WS.loop (UI S H9) 9 ?_ ?_
    ·refine ⟨8, by omega, _, _, [0, 1], ⟨0, by omega, rfl, rfl, .refl _, rfl⟩, ?_⟩
     exact ⟨rfl, ⟨rfl, rfl, trivial⟩, rfl, rfl, rfl, trivial⟩
    clear hal hmod hpn hi h3
    rintro k F H14 G hle17 ⟨j, hj, rfl, rfl, hle18, rfl⟩
    refine codeL.go tab ?_
    have hj9 : j = 0 ∨ j = 1 ∨ j = 2 ∨ j = 3 ∨ j = 4 ∨ j = 5 ∨ j = 6 ∨ j = 7 ∨ j = 8 := by omega
    rcases hj9 with rfl | rfl | rfl | rfl | rfl | rfl | rfl | rfl | rfl
    ·(conv => whnf)
     refine WS.draw tab mixed (.take 0 (.take 1 (.take 2 (.take 3 (.take 4 (.take 5 (.take 6 (.take 7 (.take 8 (.take 9 (.take 10 (.take 11 (.take 12 (.take 13 (.take 14 (.take 15 (.take 16 (.take 17 (.take 18 (.take 19 (.take 20 (.take 21 (.take 22 (.take 23 (.take 24 (.take 25 (.take 26 (.alt 27 (.alt 28 (.take 29 .done) .no) .no)))))))))))))))))))))))))))) (by kernel_rfl) [1] ?_
     (conv => whnf)
     repeat' (first
      | exact trivial
      | (refine ⟨_, rfl, hrd6, ones4 _ _ _ _ _, ?_⟩; (conv => whnf))
      | (refine ⟨by decide, .inl ?_⟩; intro g5 H15 hle19 hrd6; (conv => whnf))
      | (refine ⟨by decide, ?_⟩; (conv => whnf))
      | (refine ⟨_, rfl, ?_⟩; (conv => whnf))
      | (refine ⟨7, by decide, _, _, [0, 2], ⟨1, by decide, rfl, rfl, hle18.trans hle19, rfl⟩, ?_⟩; refine ⟨rfl, ⟨rfl, row_outI _ _ _ _, trivial⟩, rfl, rfl, rfl, trivial⟩)
      | exact rfl
      | (refine And.intro ?_ ?_ <;> (conv => whnf)))
    ·(conv => whnf)
     refine WS.draw tab mixed (.take 0 (.take 1 (.take 2 (.take 3 (.take 4 (.take 5 (.take 6 (.take 7 (.take 8 (.take 9 (.take 10 (.take 11 (.take 12 (.take 13 (.take 14 (.take 15 (.take 16 (.take 17 (.take 18 (.take 19 (.take 20 (.take 21 (.take 22 (.take 23 (.take 24 (.take 25 (.take 26 (.alt 27 (.alt 28 (.take 29 .done) .no) .no)))))))))))))))))))))))))))) (by kernel_rfl) [1] ?_
     (conv => whnf)
     repeat' (first
      | exact trivial
      | (refine ⟨_, rfl, hrd6, ones4 _ _ _ _ _, ?_⟩; (conv => whnf))
      | (refine ⟨by decide, .inl ?_⟩; intro g5 H15 hle19 hrd6; (conv => whnf))
      | (refine ⟨by decide, ?_⟩; (conv => whnf))
      | (refine ⟨_, rfl, ?_⟩; (conv => whnf))
      | (refine ⟨6, by decide, _, _, [0, 2], ⟨2, by decide, rfl, rfl, hle18.trans hle19, rfl⟩, ?_⟩; refine ⟨rfl, ⟨rfl, row_outI _ _ _ _, trivial⟩, rfl, rfl, rfl, trivial⟩)
      | exact rfl
      | (refine And.intro ?_ ?_ <;> (conv => whnf)))
    ·(conv => whnf)
     refine WS.draw tab mixed (.take 0 (.take 1 (.take 2 (.take 3 (.take 4 (.take 5 (.take 6 (.take 7 (.take 8 (.take 9 (.take 10 (.take 11 (.take 12 (.take 13 (.take 14 (.take 15 (.take 16 (.take 17 (.take 18 (.take 19 (.take 20 (.take 21 (.take 22 (.take 23 (.take 24 (.take 25 (.take 26 (.alt 27 (.alt 28 (.take 29 .done) .no) .no)))))))))))))))))))))))))))) (by kernel_rfl) [1] ?_
     (conv => whnf)
     repeat' (first
      | exact trivial
      | (refine ⟨_, rfl, hrd6, ones4 _ _ _ _ _, ?_⟩; (conv => whnf))
      | (refine ⟨by decide, .inl ?_⟩; intro g5 H15 hle19 hrd6; (conv => whnf))
      | (refine ⟨by decide, ?_⟩; (conv => whnf))
      | (refine ⟨_, rfl, ?_⟩; (conv => whnf))
      | (refine ⟨5, by decide, _, _, [0, 2], ⟨3, by decide, rfl, rfl, hle18.trans hle19, rfl⟩, ?_⟩; refine ⟨rfl, ⟨rfl, row_outI _ _ _ _, trivial⟩, rfl, rfl, rfl, trivial⟩)
      | exact rfl
      | (refine And.intro ?_ ?_ <;> (conv => whnf)))
    ·(conv => whnf)
     refine WS.draw tab mixed (.take 0 (.take 1 (.take 2 (.take 3 (.take 4 (.take 5 (.take 6 (.take 7 (.take 8 (.take 9 (.take 10 (.take 11 (.take 12 (.take 13 (.take 14 (.take 15 (.take 16 (.take 17 (.take 18 (.take 19 (.take 20 (.take 21 (.take 22 (.take 23 (.take 24 (.take 25 (.take 26 (.alt 27 (.alt 28 (.take 29 .done) .no) .no)))))))))))))))))))))))))))) (by kernel_rfl) [1] ?_
     (conv => whnf)
     repeat' (first
      | exact trivial
      | (refine ⟨_, rfl, hrd6, ones4 _ _ _ _ _, ?_⟩; (conv => whnf))
      | (refine ⟨by decide, .inl ?_⟩; intro g5 H15 hle19 hrd6; (conv => whnf))
      | (refine ⟨by decide, ?_⟩; (conv => whnf))
      | (refine ⟨_, rfl, ?_⟩; (conv => whnf))
      | (refine ⟨4, by decide, _, _, [0, 2], ⟨4, by decide, rfl, rfl, hle18.trans hle19, rfl⟩, ?_⟩; refine ⟨rfl, ⟨rfl, row_outI _ _ _ _, trivial⟩, rfl, rfl, rfl, trivial⟩)
      | exact rfl
      | (refine And.intro ?_ ?_ <;> (conv => whnf)))
    ·(conv => whnf)
     refine WS.draw tab mixed (.take 0 (.take 1 (.take 2 (.take 3 (.take 4 (.take 5 (.take 6 (.take 7 (.take 8 (.take 9 (.take 10 (.take 11 (.take 12 (.take 13 (.take 14 (.take 15 (.take 16 (.take 17 (.take 18 (.take 19 (.take 20 (.take 21 (.take 22 (.take 23 (.take 24 (.take 25 (.take 26 (.alt 27 (.alt 28 (.take 29 .done) .no) .no)))))))))))))))))))))))))))) (by kernel_rfl) [1] ?_
     (conv => whnf)
     repeat' (first
      | exact trivial
      | (refine ⟨_, rfl, hrd6, ones4 _ _ _ _ _, ?_⟩; (conv => whnf))
      | (refine ⟨by decide, .inl ?_⟩; intro g5 H15 hle19 hrd6; (conv => whnf))
      | (refine ⟨by decide, ?_⟩; (conv => whnf))
      | (refine ⟨_, rfl, ?_⟩; (conv => whnf))
      | (refine ⟨3, by decide, _, _, [0, 2], ⟨5, by decide, rfl, rfl, hle18.trans hle19, rfl⟩, ?_⟩; refine ⟨rfl, ⟨rfl, row_outI _ _ _ _, trivial⟩, rfl, rfl, rfl, trivial⟩)
      | exact rfl
      | (refine And.intro ?_ ?_ <;> (conv => whnf)))
    ·(conv => whnf)
     refine WS.draw tab mixed (.take 0 (.take 1 (.take 2 (.take 3 (.take 4 (.take 5 (.take 6 (.take 7 (.take 8 (.take 9 (.take 10 (.take 11 (.take 12 (.take 13 (.take 14 (.take 15 (.take 16 (.take 17 (.take 18 (.take 19 (.take 20 (.take 21 (.take 22 (.take 23 (.take 24 (.take 25 (.take 26 (.alt 27 (.alt 28 (.take 29 .done) .no) .no)))))))))))))))))))))))))))) (by kernel_rfl) [1] ?_
     (conv => whnf)
     repeat' (first
      | exact trivial
      | (refine ⟨_, rfl, hrd6, ones4 _ _ _ _ _, ?_⟩; (conv => whnf))
      | (refine ⟨by decide, .inl ?_⟩; intro g5 H15 hle19 hrd6; (conv => whnf))
      | (refine ⟨by decide, ?_⟩; (conv => whnf))
      | (refine ⟨_, rfl, ?_⟩; (conv => whnf))
      | (refine ⟨2, by decide, _, _, [0, 2], ⟨6, by decide, rfl, rfl, hle18.trans hle19, rfl⟩, ?_⟩; refine ⟨rfl, ⟨rfl, row_outI _ _ _ _, trivial⟩, rfl, rfl, rfl, trivial⟩)
      | exact rfl
      | (refine And.intro ?_ ?_ <;> (conv => whnf)))
    ·(conv => whnf)
     refine WS.draw tab mixed (.take 0 (.take 1 (.take 2 (.take 3 (.take 4 (.take 5 (.take 6 (.take 7 (.take 8 (.take 9 (.take 10 (.take 11 (.take 12 (.take 13 (.take 14 (.take 15 (.take 16 (.take 17 (.take 18 (.take 19 (.take 20 (.take 21 (.take 22 (.take 23 (.take 24 (.take 25 (.take 26 (.alt 27 (.alt 28 (.take 29 .done) .no) .no)))))))))))))))))))))))))))) (by kernel_rfl) [1] ?_
     (conv => whnf)
     repeat' (first
      | exact trivial
      | (refine ⟨_, rfl, hrd6, ones4 _ _ _ _ _, ?_⟩; (conv => whnf))
      | (refine ⟨by decide, .inl ?_⟩; intro g5 H15 hle19 hrd6; (conv => whnf))
      | (refine ⟨by decide, ?_⟩; (conv => whnf))
      | (refine ⟨_, rfl, ?_⟩; (conv => whnf))
      | (refine ⟨1, by decide, _, _, [0, 2], ⟨7, by decide, rfl, rfl, hle18.trans hle19, rfl⟩, ?_⟩; refine ⟨rfl, ⟨rfl, row_outI _ _ _ _, trivial⟩, rfl, rfl, rfl, trivial⟩)
      | exact rfl
      | (refine And.intro ?_ ?_ <;> (conv => whnf)))
    ·(conv => whnf)
     refine WS.draw tab mixed (.take 0 (.take 1 (.take 2 (.take 3 (.take 4 (.take 5 (.take 6 (.take 7 (.take 8 (.take 9 (.take 10 (.take 11 (.take 12 (.take 13 (.take 14 (.take 15 (.take 16 (.take 17 (.take 18 (.take 19 (.take 20 (.take 21 (.take 22 (.take 23 (.take 24 (.take 25 (.take 26 (.alt 27 (.alt 28 (.take 29 .done) .no) .no)))))))))))))))))))))))))))) (by kernel_rfl) [1] ?_
     (conv => whnf)
     repeat' (first
      | exact trivial
      | (refine ⟨_, rfl, hrd6, ones4 _ _ _ _ _, ?_⟩; (conv => whnf))
      | (refine ⟨by decide, .inl ?_⟩; intro g5 H15 hle19 hrd6; (conv => whnf))
      | (refine ⟨by decide, ?_⟩; (conv => whnf))
      | (refine ⟨_, rfl, ?_⟩; (conv => whnf))
      | (refine ⟨0, by decide, _, _, [0, 2], ⟨8, by decide, rfl, rfl, hle18.trans hle19, rfl⟩, ?_⟩; refine ⟨rfl, ⟨rfl, row_outI _ _ _ _, trivial⟩, rfl, rfl, rfl, trivial⟩)
      | exact rfl
      | (refine And.intro ?_ ?_ <;> (conv => whnf)))
    ·(conv => whnf)
     refine ⟨St8.ints S, rfl, ?_⟩
     rw [← outT_all]
end Ref1
end Go.Kx.Sha
namespace Go.Kx.Sha
open Go.Proofs Go.Kx
set_option maxRecDepth 20000
namespace Ref1
theorem sumR (m : List UInt8) (A : Option Addr) (n cap : Nat) (H : Hp) (hm : BytesAt H A n m) (hl : n ≤ 1000000) :
  CallO Tryz.prog 87 [pv (.slice A n cap)] H [] fun e H' G' => RetB (sha m) e H' ∧ G' = [] := by
 refine CallO.bytes (t := 5) rfl (CallO.sub (sum0 m A n cap H hm hl) ?_)
 rintro e H' G' hle ⟨xs, rfl, rfl⟩
 exact ⟨.si (.ce (.self 0)), [.row 5 1 32 (bCells (sha m))], [1], rfl, ⟨rfl, trivial⟩, rfl, rfl, rfl⟩
theorem sumO (m : List UInt8) (n : Nat) (H : Hp) (hn : n = m.length) (hl : n ≤ 1000000) :
  CallO Tryz.prog 87 [.si (.ce (.self 0))] H [.row 5 1 n (bCells m)] fun e H' G' => RetB (sha m) e H' ∧ G' = [.dead] := by
 refine CallO.eat 0 (t := 5) (sz := 1) (n := n) (xs := bCells m) rfl (fun h0 => by have : m = [] := List.eq_nil_of_length_eq_zero (by omega); rw [this]; rfl) ?_
 intro x H2 hle hfr
 obtain ⟨A, cap, rfl, hb⟩ := BytesAt.of_frozen hn hfr
 refine (CallS.use (sumR m A n cap H2 hb hl) [] rfl rfl trivial ?_).to
 rintro e H' G' hle ⟨⟨B, k, c, rfl, hb⟩, rfl⟩
 (conv => whnf)
 exact ⟨⟨B, k, c, rfl, hb⟩, rfl⟩
end Ref1
end Go.Kx.Sha
namespace Go.Kx.Sha
open Go.Proofs Go.Kx
set_option maxRecDepth 20000
namespace Ref2
def T : Tab := [(55, { k := TK.slice 5, agg := false, size := 1, bytes := 24, zero := [Z.sl] }), (5, { k := TK.int IntKind.u8, agg := false, size := 1, bytes := 1, zero := [Z.i IntKind.u8] }), (3, { k := TK.int IntKind.i64, agg := false, size := 1, bytes := 8, zero := [Z.i IntKind.i64] }), (4, { k := TK.bool, agg := false, size := 1, bytes := 1, zero := [Z.b] })]
set_option maxRecDepth 100000 in
theorem tab : TabOk Tryz.prog T := tabOk_mk (ts := [55, 5, 3, 4]) (by kernel_rfl)

theorem padB_get (key : List UInt8) (x : UInt8) {i : Nat} (hi : i < 64) : (padB key x)[i]? = some (if i < (keyOf key).length then x ^^^ (keyOf key).getD i 0 else x) := by
 have hl := keyOf_length key
 unfold padB padBase
 rw [List.getElem?_map]
 by_cases h : i < (keyOf key).length
 ·rw [if_pos h, List.getElem?_append_left h, List.getElem?_eq_getElem h, List.getD_eq_getElem?_getD, List.getElem?_eq_getElem h]
  simp [UInt8.xor_comm]
 ·rw [if_neg h, List.getElem?_append_right (by omega), List.getElem?_replicate, if_pos (by omega)]
  simp
theorem take_snoc {l : List UInt8} {i : Nat} {b : UInt8} (h : l[i]? = some b) {m : Nat} {v : Int} (hm : m = i + 1) (hv : v = (b.toNat : Int)) (t : TypeId) : SB.row t 1 m (bCells (l.take i) ++ [Value.int .u8 v]) = SB.row t 1 (i + 1) (bCells (l.take (i + 1))) := by
 subst hm hv
 rw [take_get h]
 rw [← bCells_append]
 rfl
theorem bytes_at {H : Hp} {A : Option Addr} {n : Nat} {bs : List UInt8} (hb : BytesAt H A n bs) {i : Nat} (hi : i < n) : (∃ b o, A = some ⟨b, o, none⟩) ∧ ∀ off, off = i → RdC H A off (.int .u8 (bs.getD i 0).toNat) := by
 obtain ⟨hn, hA, hrd⟩ := hb
 cases A with
 | none => have := hA rfl; subst this; subst hn; exact absurd hi (Nat.not_lt_zero _)
 | some a =>
  obtain ⟨b, o, hab, h2⟩ := hrd a rfl
  refine ⟨⟨b, o, hab⟩, fun off ho => ⟨b, o, hab, h2 _ _ (bget (by omega) ho)⟩⟩
def PI (key : List UInt8) (x : UInt8) (B : Option Addr) (n c : Nat) (H : Hp) (k : Nat) (F : Fr) (H2 : Hp) (G : List SB) : Prop :=
 ∃ i : Nat, i ≤ 64 ∧ k = 64 - i ∧ F = [(0, pv (.slice B n c)), (1, pv (.int .u8 x.toNat)), (5, .si (.ce (.self 0))), (6, pv (.int .i64 i))] ∧ H.Le H2 ∧ G = [.row 5 1 i (bCells ((padB key x).take i))]
theorem pad (key : List UInt8) (x : UInt8) (A : Option Addr) (n cap : Nat) (H : Hp) (hk : BytesAt H A n key) (hn : n ≤ 1000000) :
  CallO Tryz.prog 88 [pv (.slice A n cap), pv (.int .u8 x.toNat)] H [] fun e _ G' => e = .ret (.si (.ce (.self 0))) ∧ G' = [.row 5 1 64 (bCells (padB key x))] := by
 refine CallO.of_bodyW tab Tryz.func88 rfl (nt := Tryz.f88.ntmps) rfl (by kernel_rfl) ?_
 refine W.seqS (codeX_ok tab _ ?_)
 (conv => whnf)
 refine WS.seqTo tab (fun F H2 G => ∃ B m c, F = [(0, pv (.slice B m c)), (1, pv (.int .u8 x.toNat))] ∧ BytesAt H2 B m (keyOf key) ∧ G = []) ?_ ?_
 ·(conv => whnf)
  refine br.of (fun h1 => ?_) (fun h1 => ?_) <;> (conv => whnf)
  ·simp only [gt_iff_lt, decide_eq_true_eq] at h1
   refine ⟨⟨_, Tryz.func87, rfl, by kernel_rfl⟩, CallS.use (Ref1.sumR key A n cap H hk hn) [] rfl rfl trivial ?_⟩
   rintro e H3 G' hle2 ⟨⟨B, m, c, rfl, hb⟩, rfl⟩
   (conv => whnf)
   refine ⟨_, _, [], ⟨B, m, c, rfl, ?_, rfl⟩, rfl, trivial, rfl, rfl, trivial⟩
   unfold keyOf
   rw [if_pos (by have := hk.1; omega)]
   exact hb
  ·simp only [gt_iff_lt, decide_eq_false_iff_not] at h1
   refine ⟨_, _, [], ⟨A, n, cap, rfl, ?_, rfl⟩, rfl, trivial, rfl, rfl, trivial⟩
   unfold keyOf
   rw [if_neg (by have := hk.1; omega)]
   exact hk
 ·rintro F H2 G hle ⟨B, m, c, rfl, hb, rfl⟩
  refine codeL.go tab ?_
  (conv => whnf)
  have hkl := keyOf_length key
  refine WS.nilRow 5 5 1 rfl ?_
  (conv => whnf)
  refine WS.loop (PI key x B m c H2) 65 ?_ ?_
  ·refine ⟨64, by omega, _, _, [0], ⟨0, by omega, rfl, rfl, .refl _, rfl⟩, ?_⟩
   exact ⟨rfl, ⟨rfl, trivial⟩, rfl, rfl, rfl, rfl, trivial⟩
  rintro k F H3 G hle2 ⟨i, hi, rfl, rfl, hle3, rfl⟩
  refine codeL.go tab ?_
  (conv => whnf)
  refine br.of (fun h1 => ?_) (fun h1 => ?_) <;> (conv => whnf)
  ·simp only [decide_eq_true_eq] at h1
   have hx := padB_get key x (i := i) (by omega)
   have hm := hb.1
   refine br.of (fun h2 => ?_) (fun h2 => ?_) <;> (conv => whnf)
   ·simp only [decide_eq_true_eq] at h2
    rw [if_pos (by omega)] at hx
    obtain ⟨hB, hrd⟩ := bytes_at (hb.mono hle3) (i := i) (by omega)
    refine ⟨⟨by omega, h2⟩, hB, ?_⟩
    (conv => whnf)
    refine ⟨_, hrd _ (by simp), ?_⟩
    (conv => whnf)
    rw [xor8]
    refine ⟨by decide, .inl ?_⟩
    intro g H4 hle4 hrd
    (conv => whnf)
    refine ⟨_, rfl, hrd, one_int _ _, ?_⟩
    (conv => whnf)
    refine ⟨by show _ * 2 ≤ _; omega, ?_⟩
    (conv => whnf)
    rw [wrap64 (x := (i : Int) + 1) (by omega) (by omega)]
    refine ⟨64 - (i + 1), by omega, _, _, [1], ⟨i + 1, by omega, rfl, rfl, hle3.trans hle4, rfl⟩, ?_⟩
    refine ⟨rfl, ⟨take_snoc hx rfl rfl _, trivial⟩, rfl, rfl, rfl, rfl, trivial⟩
   ·simp only [decide_eq_false_iff_not] at h2
    rw [if_neg (by omega)] at hx
    refine ⟨by decide, .inl ?_⟩
    intro g H4 hle4 hrd
    (conv => whnf)
    refine ⟨_, rfl, hrd, one_int _ _, ?_⟩
    (conv => whnf)
    refine ⟨by show _ * 2 ≤ _; omega, ?_⟩
    (conv => whnf)
    rw [wrap64 (x := (i : Int) + 1) (by omega) (by omega)]
    refine ⟨64 - (i + 1), by omega, _, _, [1], ⟨i + 1, by omega, rfl, rfl, hle3.trans hle4, rfl⟩, ?_⟩
    refine ⟨rfl, ⟨take_snoc hx rfl rfl _, trivial⟩, rfl, rfl, rfl, rfl, trivial⟩
  ·simp only [decide_eq_false_iff_not] at h1
   obtain rfl : i = 64 := by omega
   refine ⟨rfl, ?_⟩
   rw [List.take_of_length_le (by rw [padB_length]; exact Nat.le_refl _)]
theorem code (key msg : List UInt8) (A B : Option Addr) (n cap m c : Nat) (H : Hp) (hk : BytesAt H A n key) (hp : BytesAt H B m msg) (hn : n ≤ 900000) (hm : m ≤ 900000) :
  CallO Tryz.prog 53 [pv (.slice A n cap), pv (.slice B m c)] H [] fun e H' G' => RetB (hmac key msg) e H' ∧ G' = [] := by
 refine CallO.of_body tab Tryz.func53 rfl (nt := Tryz.f53.ntmps) rfl (by kernel_rfl) ?_
 (conv => whnf)
 refine ⟨⟨_, Tryz.func88, rfl, by kernel_rfl⟩, CallS.use (pad key 0x36 A n cap H hk (by omega)) [] rfl rfl trivial ?_⟩
 rintro e H2 G' hle ⟨rfl, rfl⟩
 (conv => whnf)
 have hpl : ∀ x, (padB key x).length = 64 := padB_length key
 have hmm := hp.1
 cases B with
 | none =>
  have hmsg := hp.2.1 rfl
  subst hmsg
  (conv => whnf)
  have hm0 : m = 0 := hmm
  subst hm0
  (conv => whnf)
  refine ⟨by decide, ?_⟩
  (conv => whnf)
  refine ⟨⟨_, Tryz.func87, rfl, by kernel_rfl⟩, CallS.use (Ref1.sumO (padB key 0x36 ++ []) (64 + 0) H2 (by rw [List.length_append, hpl]; rfl) (by omega)) [1] rfl rfl ⟨by rw [List.append_nil, List.append_nil]; rfl, trivial⟩ ?_⟩
  rintro e H3 G' hle2 ⟨⟨A3, n3, c3, rfl, hb3⟩, rfl⟩
  (conv => whnf)
  have h3l : n3 = 32 := hb3.1
  subst h3l
  refine ⟨⟨_, Tryz.func88, rfl, by kernel_rfl⟩, CallS.use (pad key 0x5c A n cap H3 (hk.mono (hle.trans hle2)) (by omega)) [] rfl rfl trivial ?_⟩
  rintro e H4 G' hle3 ⟨rfl, rfl⟩
  (conv => whnf)
  obtain ⟨hq, hC, hrd3⟩ := hb3.mono hle3
  cases A3 with
  | none => have := hC rfl; have h2 := sha_length (padB key 0x36 ++ []); rw [this] at h2; cases h2
  | some a3 =>
   (conv => whnf)
   refine ⟨bCells (sha (padB key 0x36 ++ [])), rfl, hrd3 a3 rfl, bCells_one _, ?_⟩
   (conv => whnf)
   refine ⟨by decide, ?_⟩
   (conv => whnf)
   refine ⟨⟨_, Tryz.func87, rfl, by kernel_rfl⟩, CallS.use (Ref1.sumO (padB key 0x5c ++ sha (padB key 0x36 ++ [])) 96 H4 (by rw [List.length_append, hpl, sha_length]) (by decide)) [3] rfl rfl ⟨by rw [bCells_append]; rfl, trivial⟩ ?_⟩
   rintro e H5 G' hle4 ⟨⟨A5, n5, c5, rfl, hb5⟩, rfl⟩
   (conv => whnf)
   exact ⟨⟨A5, n5, c5, rfl, hb5⟩, rfl⟩
 | some b =>
  (conv => whnf)
  refine ⟨bCells msg, by rw [bCells_length, ← hmm]; exact (Nat.mul_one _).symm, (hp.mono hle).2.2 b rfl, bCells_one _, ?_⟩
  (conv => whnf)
  refine ⟨by show (64 + m) * 2 ≤ _; omega, ?_⟩
  (conv => whnf)
  refine ⟨⟨_, Tryz.func87, rfl, by kernel_rfl⟩, CallS.use (Ref1.sumO (padB key 0x36 ++ msg) (64 + m) H2 (by rw [List.length_append, hpl, hmm]) (by omega)) [1] rfl rfl ⟨by rw [bCells_append]; rfl, trivial⟩ ?_⟩
  rintro e H3 G' hle2 ⟨⟨A3, n3, c3, rfl, hb3⟩, rfl⟩
  (conv => whnf)
  have h3l : n3 = 32 := hb3.1
  subst h3l
  refine ⟨⟨_, Tryz.func88, rfl, by kernel_rfl⟩, CallS.use (pad key 0x5c A n cap H3 (hk.mono (hle.trans hle2)) (by omega)) [] rfl rfl trivial ?_⟩
  rintro e H4 G' hle3 ⟨rfl, rfl⟩
  (conv => whnf)
  obtain ⟨hq, hC, hrd3⟩ := hb3.mono hle3
  cases A3 with
  | none => have := hC rfl; have h2 := sha_length (padB key 0x36 ++ msg); rw [this] at h2; cases h2
  | some a3 =>
   (conv => whnf)
   refine ⟨bCells (sha (padB key 0x36 ++ msg)), rfl, hrd3 a3 rfl, bCells_one _, ?_⟩
   (conv => whnf)
   refine ⟨by decide, ?_⟩
   (conv => whnf)
   refine ⟨⟨_, Tryz.func87, rfl, by kernel_rfl⟩, CallS.use (Ref1.sumO (padB key 0x5c ++ sha (padB key 0x36 ++ msg)) 96 H4 (by rw [List.length_append, hpl, sha_length]) (by decide)) [3] rfl rfl ⟨by rw [bCells_append]; rfl, trivial⟩ ?_⟩
   rintro e H5 G' hle4 ⟨⟨A5, n5, c5, rfl, hb5⟩, rfl⟩
   (conv => whnf)
   exact ⟨⟨A5, n5, c5, rfl, hb5⟩, rfl⟩
end Ref2
end Go.Kx.Sha
namespace Go.Kx.Rf
open Go.Proofs Go.Kx Go.RowKit Go.Kx.Js Go.Kx.Pr Go.Kx.Cl Go.Kx.Se Go.Kx.Lb Go.Kx.Jw Go.Kx.Ob Go.Kx.En Go.Kx.Sha
set_option maxRecDepth 20000
set_option linter.unusedSimpArgs false
namespace Sn
def T : Tab := [(9, { k := TK.string, agg := false, size := 1, bytes := 16, zero := [Z.s] }), (55, { k := TK.slice 5, agg := false, size := 1, bytes := 24, zero := [Z.sl] }), (5, { k := TK.int IntKind.u8, agg := false, size := 1, bytes := 1, zero := [Z.i IntKind.u8] }), (3, { k := TK.int IntKind.i64, agg := false, size := 1, bytes := 8, zero := [Z.i IntKind.i64] }), (4, { k := TK.bool, agg := false, size := 1, bytes := 1, zero := [Z.b] }), (123, { k := TK.ar 4 3 1, agg := true, size := 4, bytes := 32, zero := [Z.i IntKind.i64, Z.i IntKind.i64, Z.i IntKind.i64, Z.i IntKind.i64] })]
set_option maxRecDepth 100000 in
theorem tab : TabOk Tryz.prog T := tabOk_mk (ts := [9, 55, 5, 3, 4, 123]) (by kernel_rfl)
end Sn
theorem sign11 (kid typ : ByteArray) (hk1 : kid.size ≤ 1000) (hk2 : typ.size ≤ 1000) (pl key : List UInt8) (A : Option Addr) (c : Nat) (B : Option Addr) (d : Nat) (hn : pl.length ≤ 1000000) (hm : key.length ≤ 900000) (H : Hp) (hb : BytesAt H A pl.length pl) (hk : BytesZ H B key.length key) :
  CallO Tryz.prog 21 [pv (.string kid), pv (.string typ), pv (.slice A pl.length c), pv (.slice B key.length d)] H [] fun e H' G' => e = .ret (.tu [.ce (.val (.string (signP kid typ pl key).1)), .ce (.val (.int .i64 (signP kid typ pl key).2))]) ∧ H.Le H' ∧ G' = [] := by
 unfold signP
 refine CallO.of_body Sn.tab Tryz.func21 rfl (nt := Tryz.f21.ntmps) rfl (by kernel_rfl) ?_
 (conv => whnf)
 refine ⟨⟨_, Tryz.func51, rfl, by kernel_rfl⟩, CallS.use (word11 kid (by omega) H) [] rfl rfl trivial ?_⟩
 rintro e H1 G' hle1 ⟨rfl, hle1', rfl⟩
 cases w1 : Wo.wordP 40 kid <;> (conv => whnf)
 ·exact ⟨rfl, hle1, rfl⟩
 refine ⟨⟨_, Tryz.func51, rfl, by kernel_rfl⟩, CallS.use (word11 typ (by omega) H1) [] rfl rfl trivial ?_⟩
 rintro e H2 G' hle2 ⟨rfl, hle2', rfl⟩
 cases w2 : Wo.wordP 40 typ <;> (conv => whnf)
 ·exact ⟨rfl, hle1.trans hle2, rfl⟩
 rw [if_neg (by decide)]
 refine br.of (fun h1 => ?_) (fun h1 => ?_) <;> (conv => whnf)
 ·have h1 := of_decide_eq_true h1
  rw [if_pos (by omega)]
  exact ⟨rfl, hle1.trans hle2, rfl⟩
 have h1 := of_decide_eq_false h1
 rw [if_neg (by omega)]
 refine br.of (fun h2 => ?_) (fun h2 => ?_) <;> (conv => whnf)
 ·have h2 := of_decide_eq_true h2
  rw [if_pos (by omega)]
  exact ⟨rfl, hle1.trans hle2, rfl⟩
 have h2 := of_decide_eq_false h2
 rw [if_neg (by omega)]
 refine ⟨⟨_, Tryz.func45, rfl, by kernel_rfl⟩, CallS.use (quoteS kid hk1 _) [] rfl rfl trivial ?_⟩
 rintro e H3 G' hle3 ⟨⟨q1, rfl, hq1, hs1⟩, rfl, rfl⟩
 (conv => whnf)
 refine ⟨add_ok (n := 100) (by decide) hs1 (by decide), ?_⟩
 (conv => whnf)
 refine ⟨add_ok (add_le (n := 100) (by decide) hs1) (m := 100) (by decide) (by decide), ?_⟩
 (conv => whnf)
 refine ⟨⟨_, Tryz.func45, rfl, by kernel_rfl⟩, CallS.use (quoteS typ hk2 _) [] rfl rfl trivial ?_⟩
 rintro e H3 G' hle4 ⟨⟨q2, rfl, hq2, hs2⟩, rfl, rfl⟩
 (conv => whnf)
 refine ⟨add_ok (add_le (add_le (n := 100) (by decide) hs1) (m := 100) (by decide)) hs2 (by decide), ?_⟩
 (conv => whnf)
 refine ⟨add_ok (add_le (add_le (add_le (n := 100) (by decide) hs1) (m := 100) (by decide)) hs2) (m := 100) (by decide) (by decide), ?_⟩
 (conv => whnf)
 have hhd : (⟨#[123, 34, 97, 108, 103, 34, 58, 34, 72, 83, 50, 53, 54, 34, 44, 34, 107, 105, 100, 34, 58]⟩ : ByteArray) ++ q1 ++ ⟨#[44, 34, 116, 121, 112, 34, 58]⟩ ++ q2 ++ ⟨#[125]⟩ = ⟨(wrJ (headJ kid typ)).toArray⟩ := by
  apply ByteArray.ext
  refine Array.toList_inj.1 ?_
  rw [head_wr, show quoteB sAlg.data.toList = ([34, 97, 108, 103, 34] : List UInt8) from by decide +kernel, show quoteB sHs.data.toList = ([34, 72, 83, 50, 53, 54, 34] : List UInt8) from by decide +kernel, show quoteB sKid.data.toList = ([34, 107, 105, 100, 34] : List UInt8) from by decide +kernel, show quoteB sTyp.data.toList = ([34, 116, 121, 112, 34] : List UInt8) from by decide +kernel]
  simp only [ByteArray.data_append, Array.toList_append, hq1, hq2]
  unfold tL
  simp
 rw [hhd]
 have l1 := encP_len _ (wrJ (headJ kid typ)) (Nat.lt_succ_self _)
 have l2 := encP_len _ pl (Nat.lt_succ_self _)
 have l5 := head_len w1 w2
 have lsg : (signedP kid typ pl).length = (encP (wrJ (headJ kid typ))).length + ((encP pl).length + 1) := by unfold signedP; rw [List.length_append, List.length_cons]
 have l4 : (hmac key (signedP kid typ pl)).length = 32 := sha_length _
 have l3 := encP_len _ (hmac key (signedP kid typ pl)) (Nat.lt_succ_self _)
 have z1 : ∀ a b : ByteArray, (a ++ b).size = a.size + b.size := fun a b => ByteArray.size_append
 have zd : (⟨#[46]⟩ : ByteArray) = ⟨([46] : List UInt8).toArray⟩ := rfl
 intro g cap H4 hle5 hcap hrd
 rw [bs_cells] at hrd
 rw [bs_size]
 (conv => whnf)
 refine ⟨⟨_, Tryz.func52, rfl, by kernel_rfl⟩, CallS.use (Ref04.enc_ (wrJ (headJ kid typ)) (some ⟨g, 0, none⟩) cap (by omega) H4 (.lit rfl hrd)) [] rfl rfl trivial ?_⟩
 rintro e H5 G' hle6 ⟨rfl, hle6', rfl⟩
 (conv => whnf)
 refine ⟨by rw [bs_size]; show _ + 1 ≤ _; omega, ?_⟩
 (conv => whnf)
 have hleA := (((hle1.trans hle2).trans (hle3.trans hle4)).trans hle5).trans hle6
 refine ⟨⟨_, Tryz.func52, rfl, by kernel_rfl⟩, CallS.use (Ref04.enc_ pl A c hn H5 (hb.mono hleA)) [] rfl rfl trivial ?_⟩
 rintro e H6 G' hle7 ⟨rfl, hle7', rfl⟩
 (conv => whnf)
 refine ⟨by rw [z1, bs_size (encP (wrJ (headJ kid typ))), bs_size (encP pl)]; show _ + 1 + _ ≤ _; omega, ?_⟩
 have hsg : (⟨(encP (wrJ (headJ kid typ))).toArray⟩ : ByteArray) ++ ⟨#[46]⟩ ++ ⟨(encP pl).toArray⟩ = ⟨(signedP kid typ pl).toArray⟩ := by
  rw [zd, bs_app, bs_app]; unfold signedP; simp
 rw [hsg]
 (conv => whnf)
 refine ⟨by rw [bs_size]; show _ + 1 ≤ _; omega, ?_⟩
 (conv => whnf)
 intro g2 cap2 H7 hle8 hcap2 hrd2
 rw [bs_cells] at hrd2
 rw [bs_size]
 (conv => whnf)
 have hleB := (hleA.trans hle7).trans hle8
 refine ⟨⟨_, Tryz.func53, rfl, by kernel_rfl⟩, CallS.use (Sha.Ref2.code key (signedP kid typ pl) B (some ⟨g2, 0, none⟩) key.length d (signedP kid typ pl).length cap2 H7 ((hk.full (by omega)).mono hleB) (BytesAt.lit rfl hrd2) hm (by omega)) [] rfl rfl trivial ?_⟩
 rintro e H8 G' hle9 ⟨⟨B8, m8, c8, rfl, hb8⟩, rfl⟩
 have hm8 := hb8.1
 subst hm8
 (conv => whnf)
 refine ⟨⟨_, Tryz.func52, rfl, by kernel_rfl⟩, CallS.use (Ref04.enc_ _ B8 c8 (by omega) H8 hb8) [] rfl rfl trivial ?_⟩
 rintro e H9 G' hle10 ⟨rfl, hle10', rfl⟩
 (conv => whnf)
 refine ⟨by rw [z1, bs_size (signedP kid typ pl), bs_size (encP (hmac key (signedP kid typ pl)))]; show _ + 1 + _ ≤ _; omega, ?_⟩
 have htk : (⟨(signedP kid typ pl).toArray⟩ : ByteArray) ++ ⟨#[46]⟩ ++ ⟨(encP (hmac key (signedP kid typ pl))).toArray⟩ = ⟨(tokenP kid typ pl key).toArray⟩ := by
  rw [zd, bs_app, bs_app]; unfold tokenP; simp
 rw [htk]
 (conv => whnf)
 exact ⟨rfl, (hleB.trans hle9).trans hle10, rfl⟩
end Go.Kx.Rf
namespace Go.Kx.L13
open Go.Proofs Go.Kx Go.RowKit Go.Kx.Js Go.Kx.Pr Go.Kx.Rt Go.Kx.Ob Go.Kx.Wo Go.Kx.Cl Go.Kx.Su Go.Kx.Se Go.Kx.Jw
set_option maxRecDepth 20000
set_option linter.unusedSimpArgs false
namespace Ss
def T : Tab := [(9, { k := TK.string, agg := false, size := 1, bytes := 16, zero := [Z.s] }), (3, { k := TK.int IntKind.i64, agg := false, size := 1, bytes := 8, zero := [Z.i IntKind.i64] }), (25, { k := TK.st [(0, 9, 1), (1, 9, 1), (2, 9, 1), (3, 3, 1), (4, 9, 1), (5, 23, 3), (8, 3, 1), (9, 9, 1)], agg := true, size := 10, bytes := 144, zero := [Z.s, Z.s, Z.s, Z.i IntKind.i64, Z.s, Z.s, Z.s, Z.s, Z.i IntKind.i64, Z.s] }), (28, { k := TK.st [(0, 9, 1), (1, 9, 1), (2, 9, 1), (3, 3, 1), (4, 9, 1), (5, 9, 1), (6, 9, 1), (7, 9, 1), (8, 3, 1), (9, 9, 1)], agg := true, size := 10, bytes := 144, zero := [Z.s, Z.s, Z.s, Z.i IntKind.i64, Z.s, Z.s, Z.s, Z.s, Z.i IntKind.i64, Z.s] }), (23, { k := TK.st [(0, 9, 1), (1, 9, 1), (2, 9, 1)], agg := true, size := 3, bytes := 48, zero := [Z.s, Z.s, Z.s] }), (5, { k := TK.int IntKind.u8, agg := false, size := 1, bytes := 1, zero := [Z.i IntKind.u8] }), (55, { k := TK.slice 5, agg := false, size := 1, bytes := 24, zero := [Z.sl] }), (4, { k := TK.bool, agg := false, size := 1, bytes := 1, zero := [Z.b] }), (35, { k := TK.int IntKind.i64, agg := false, size := 1, bytes := 8, zero := [Z.i IntKind.i64] }), (62, { k := TK.slice 9, agg := false, size := 1, bytes := 24, zero := [Z.sl] })]
set_option maxRecDepth 100000 in
theorem tab : TabOk Tryz.prog T := tabOk_mk (ts := [9, 3, 25, 28, 23, 5, 55, 4, 35, 62]) (by kernel_rfl)
end Ss
theorem setSigns (c : Clm) (hn : (Lit.int .i64 c.iat).wf = true) (hkw : (Lit.int .i64 c.kind).wf = true) (kid : ByteArray) (key : List UInt8) (B : Option Addr) (cap : Nat) (H : Hp) (hE : ErrH H) (hb : BytesZ H B key.length key) : CallO Tryz.prog 6 [.si (.ag (csC c)), pv (.string kid), pv (.slice B key.length cap)] H [] fun e _ _ => e = .ret (pv (.bool true)) := by
 have hk := kind_wf hkw
 refine CallO.of_body Ss.tab Tryz.func6 rfl (nt := Tryz.f6.ntmps) rfl (by kernel_rfl) ?_
 (conv => whnf)
 refine ⟨⟨_, Tryz.func8, rfl, by kernel_rfl⟩, CallS.use (anchor_ H hE) [] rfl rfl trivial ?_⟩
 rintro e H2 G' hle2 ⟨rfl, _, rfl⟩
 (conv => whnf)
 refine ⟨⟨_, Tryz.func9, rfl, by kernel_rfl⟩, CallS.use (listed0 c H2) [] rfl rfl trivial ?_⟩
 rintro e H3 G' hle3 ⟨⟨b, rfl, hfit⟩, hle3', rfl⟩
 cases b
 ·(conv => whnf)
  rfl
 obtain ⟨hft, hfc⟩ := listed_fit (hfit rfl) hn hkw
 (conv => whnf)
 cases g1 : decide ((kid.size : Int) > 100) <;> (conv => whnf)
 rotate_left
 ·rfl
 have g1 := of_decide_eq_false g1
 refine br.of (fun g2 => ?_) (fun g2 => ?_) <;> (conv => whnf)
 ·rfl
 have g2 := of_decide_eq_false g2
 have hleA := hle2.trans hle3
 refine ⟨⟨_, Tryz.func20, rfl, by kernel_rfl⟩, CallS.use (Se.signZ_ c hk kid key B cap (by omega) H3 (hb.mono hleA)) [] rfl rfl trivial ?_⟩
 rintro e H4 G' hle4 ⟨rfl, hle4', rfl⟩
 (conv => whnf)
 refine ⟨⟨_, Tryz.func12, rfl, by kernel_rfl⟩, CallS.use (Rf.right13 c.iss c.jti c.aud c.iat c.txn c.sub.fmt c.sub.id c.sub.own c.kind c.reason hft H4) [] rfl rfl trivial ?_⟩
 rintro e H5 G' hle5 ⟨rfl, hle5', rfl⟩
 have hri := right_iff c
 have hcs : csignP c kid key = if clRight c = false then (⟨#[]⟩, 10) else signP kid sType (wrJ (clJ c)) key := rfl
 rw [show clRight ⟨c.iss, c.jti, c.aud, c.iat, c.txn, ⟨c.sub.fmt, c.sub.id, c.sub.own⟩, c.kind, c.reason⟩ = clRight c from rfl]
 cases hr : clRight c
 ·rw [hr, if_pos rfl] at hcs
  rw [hcs]
  (conv => whnf)
  rfl
 have hR := hri.1 hr
 rw [hr, if_neg (by decide)] at hcs
 (conv => whnf)
 refine ⟨⟨_, Tryz.func15, rfl, by kernel_rfl⟩, CallS.use (Rf.text_ c hR H5) [] rfl rfl trivial ?_⟩
 rintro e H6 G' hle6 ⟨rfl, hle6', rfl⟩
 (conv => whnf)
 have hwl := cl_wrl hR
 intro g cap2 H7 hle7 hcap hrd
 rw [bs_cells] at hrd
 rw [bs_size]
 (conv => whnf)
 have hleB := ((hleA.trans (hle4.trans hle5)).trans hle6).trans hle7
 refine ⟨⟨_, Tryz.func21, rfl, by kernel_rfl⟩, CallS.use (Rf.sign11 kid sType (by omega) (by decide) (wrJ (clJ c)) key (some ⟨g, 0, none⟩) cap2 B cap (by omega) (by omega) H7 (.lit rfl hrd) (hb.mono hleB)) [] rfl rfl trivial ?_⟩
 rintro e H8 G' hle8 ⟨rfl, hle8', rfl⟩
 rw [hcs]
 obtain ⟨⟨tok, ec⟩, hte⟩ : ∃ x, signP kid sType (wrJ (clJ c)) key = x := ⟨_, rfl⟩
 rw [hte]
 (conv => whnf)
 rw [show (ec != ec) = false by simp]
 (conv => whnf)
 rw [str_refl]
 (conv => whnf)
 refine br.of (fun g3 => ?_) (fun g3 => ?_) <;> (conv => whnf)
 ·rfl
 have g3 : ec = 0 := by simpa using g3
 subst g3
 have hrd0 : readP tok key = .ok c := sign_read (hcs.trans hte)
 have h16 : 16 ≤ key.length := by
  unfold signP at hte
  split at hte
  ·cases hte
  split at hte
  ·cases hte
  split at hte
  ·cases hte
  omega
 have hrr := read_ tok (by have := sign_size hte; omega) key B key.length cap (by omega) H8 (hE.mono (hleB.trans hle8)) ((hb.full (by omega)).mono (hleB.trans hle8))
 rw [hrd0] at hrr
 refine ⟨⟨_, Tryz.func22, rfl, by kernel_rfl⟩, CallS.use hrr [] rfl rfl trivial ?_⟩
 rintro e H9 G' hle9 ⟨rfl, hle9', rfl⟩
 (conv => whnf)
 change QO _ _ _ _ _ _
 refine eqClm (x := .tmp 78) (y := .tmp 79) ?_ c c ?_ ?_ hfc hfc ?_
 ·rfl
 ·rfl
 ·rfl
 intro r hr
 obtain rfl : r = true := hr.2 rfl
 (conv => whnf)
 rfl
end Go.Kx.L13
