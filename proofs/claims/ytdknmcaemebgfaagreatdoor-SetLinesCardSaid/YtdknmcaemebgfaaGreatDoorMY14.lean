/- SHA-256: a block gone through. No condition of its own. -/
import Derived.Test.YtdknmcaemebgfaaGreatDoorMY13
namespace Go.Kx.Sha
open Go.Proofs Go.Kx
set_option maxRecDepth 20000

def s8 (s : Fin 8 → BitVec 32) : List SC := [.val (cellW (s 0)), .val (cellW (s 1)), .val (cellW (s 2)), .val (cellW (s 3)), .val (cellW (s 4)), .val (cellW (s 5)), .val (cellW (s 6)), .val (cellW (s 7))]
def Sg0 (a : BitVec 32) : BitVec 32 := a.rotateRight 2 ^^^ a.rotateRight 13 ^^^ a.rotateRight 22
def Sg1 (e : BitVec 32) : BitVec 32 := e.rotateRight 6 ^^^ e.rotateRight 11 ^^^ e.rotateRight 25
structure St8 where
  a : BitVec 32
  b : BitVec 32
  c : BitVec 32
  d : BitVec 32
  e : BitVec 32
  f : BitVec 32
  g : BitVec 32
  h : BitVec 32
def St8.t1 (s : St8) (k w : BitVec 32) : BitVec 32 := s.h + Sg1 s.e + ((s.e &&& s.f) ^^^ (~~~ s.e &&& s.g)) + k + w
def St8.t2 (s : St8) : BitVec 32 := Sg0 s.a + ((s.a &&& s.b) ^^^ (s.a &&& s.c) ^^^ (s.b &&& s.c))
def St8.round (s : St8) (k w : BitVec 32) : St8 := ⟨s.t1 k w + s.t2, s.a, s.b, s.c, s.d + s.t1 k w, s.e, s.f, s.g⟩
def rounds (bs : List UInt8) (s : St8) : Nat → St8
  | 0 => s
  | t + 1 => (rounds bs s t).round (kAt t) (wAt bs t)
def St8.cells (s : St8) : List SC := [.val (cellW s.a), .val (cellW s.b), .val (cellW s.c), .val (cellW s.d), .val (cellW s.e), .val (cellW s.f), .val (cellW s.g), .val (cellW s.h)]
def St8.vals (s : St8) : List Value := [cellW s.a, cellW s.b, cellW s.c, cellW s.d, cellW s.e, cellW s.f, cellW s.g, cellW s.h]
def wVals (bs : List UInt8) : List Value := lit64 fun i => cellW (wAt bs i)
def RI (st : St8) (n : Nat) (bs : List UInt8) (H : Hp) (m : Nat) (F : Fr) (H2 : Hp) (G : List SB) : Prop :=
  ∃ t : Nat, t < 64 ∧ m = 64 - t ∧ F = [(2, .si (.ce (.ptr 1 0))), (4, .si (.ce (.ptr 2 0))), (5, .si (.ce (.ptr 3 0))), (6, .si (.ce (.ptr 4 0))), (7, pv (.int .i64 t))] ∧ H2 = H ∧
    G = [.row 5 1 n (bCells bs), .box 190 st.cells, .box 190 [.val (.int .u32 0), .val (.int .u32 0), .val (.int .u32 0), .val (.int .u32 0), .val (.int .u32 0), .val (.int .u32 0), .val (.int .u32 0), .val (.int .u32 0)], .arr 232 (wVals bs), .box 190 (rounds bs st t).cells]
theorem wVals_get {bs : List UInt8} {t off : Nat} (ht : t < 64) (ho : off = t) : (wVals bs)[off]? = some (.int .u32 (u (wAt bs t))) := by
  subst ho
  unfold wVals
  rw [lit64_eq, List.getElem?_map, List.getElem?_range ht]
  rfl
theorem u_not (a : BitVec 32) : IntKind.u32.wrap ((BitVec.ofInt IntKind.u32.bits (if IntKind.u32.signed = true then -1 else IntKind.u32.max) ^^^ BitVec.ofInt IntKind.u32.bits (u a)).toNat : Int) = u (~~~ a) := by
  have h : ((BitVec.ofInt 32 (-1 + 4294967296)) : BitVec 32) = BitVec.allOnes 32 := by decide
  have h1 : IntKind.u32.max = (-1 + 4294967296 : Int) := by decide
  rw [show (if IntKind.u32.signed = true then (-1 : Int) else IntKind.u32.max) = (-1 + 4294967296 : Int) by rw [if_neg (by decide), h1]]
  show IntKind.u32.wrap ((BitVec.ofInt 32 (-1 + 4294967296) ^^^ BitVec.ofInt 32 (u a)).toNat : Int) = _
  rw [h, show BitVec.ofInt 32 (u a) = a from ofInt_u a, BitVec.allOnes_xor]
  exact wrap32 (u_lt _).1 (u_lt (~~~ a)).2
def St8.add (s t : St8) : St8 := ⟨s.a + t.a, s.b + t.b, s.c + t.c, s.d + t.d, s.e + t.e, s.f + t.f, s.g + t.g, s.h + t.h⟩
def addC (s t : St8) : Nat → List SC
  | 0 => s.cells
  | 1 => (St8.mk (s.a + t.a) s.b s.c s.d s.e s.f s.g s.h).cells
  | 2 => (St8.mk (s.a + t.a) (s.b + t.b) s.c s.d s.e s.f s.g s.h).cells
  | 3 => (St8.mk (s.a + t.a) (s.b + t.b) (s.c + t.c) s.d s.e s.f s.g s.h).cells
  | 4 => (St8.mk (s.a + t.a) (s.b + t.b) (s.c + t.c) (s.d + t.d) s.e s.f s.g s.h).cells
  | 5 => (St8.mk (s.a + t.a) (s.b + t.b) (s.c + t.c) (s.d + t.d) (s.e + t.e) s.f s.g s.h).cells
  | 6 => (St8.mk (s.a + t.a) (s.b + t.b) (s.c + t.c) (s.d + t.d) (s.e + t.e) (s.f + t.f) s.g s.h).cells
  | 7 => (St8.mk (s.a + t.a) (s.b + t.b) (s.c + t.c) (s.d + t.d) (s.e + t.e) (s.f + t.f) (s.g + t.g) s.h).cells
  | _ => (s.add t).cells
def zero8 : List SC := [.val (.int .u32 0), .val (.int .u32 0), .val (.int .u32 0), .val (.int .u32 0), .val (.int .u32 0), .val (.int .u32 0), .val (.int .u32 0), .val (.int .u32 0)]
def compressP (bs : List UInt8) (st : St8) : St8 := (rounds bs st 64).add st
theorem compress (st : St8) (n : Nat) (bs : List UInt8) (hn : 64 ≤ n) (hl : bs.length = n) (H : Hp) : CallO Tryz.prog 155 [.si (.ag st.cells), .si (.ce (.self 0))] H [.row 5 1 n (bCells bs)] fun e H' G' =>
    e = .ret (.si (.ag (compressP bs st).cells)) ∧ H' = H ∧ G' = [.row 5 1 n (bCells bs)] := by
  refine CallO.of_bodyW tab Tryz.func155 rfl (nt := Tryz.f155.ntmps) rfl (by kernel_rfl) ?_
  refine W.seqS (codeX_ok tab _ ?_)
  conv => whnf
  refine WS.scopeR (l := 0) rfl (RI st n bs H) 64 ?_ ?_
  · rintro m F H2 G hle ⟨t, ht, rfl, rfl, rfl, rfl⟩
    refine codeL.go tab ?_
    conv => whnf
    refine WS.draw tab mixed (.take 0 (.take 1 (.take 2 (.take 3 (.take 5 (.take 6 (.take 9 (.take 10 (.take 14 (.take 15 (.take 16 (.take 17 (.take 18 (.take 19 (.take 20 (.take 21 (.take 22 (.take 23 (.take 24 (.take 25 (.take 27 (.take 30 (.take 31 (.take 32 (.alt 4 (.alt 7 (.take 8 (.alt 11 (.take 12 (.take 13 (.take 26 (.alt 28 (.take 29 (.take 33 (.take 34 .done))) .no)))) .no)) .no) .no))))))))))))))))))))))))) (by kernel_rfl) [] ?_
    conv => whnf
    generalize hR : rounds bs st t = R
    iterate 8 (refine ⟨by decide, ?_⟩; conv => whnf)
    refine ⟨⟨by omega, by omega⟩, ?_⟩
    conv => whnf
    refine ⟨_, wVals_get ht (by simp), ?_⟩
    conv => whnf
    refine ⟨⟨⟨_, Tryz.func197, rfl, by kernel_rfl⟩, CallS.use (right R.e 6 (by decide) (by decide) H2) [] rfl rfl trivial ?_⟩, trivial⟩
    rintro e H3 G' hle3 ⟨rfl, rfl, rfl⟩
    conv => whnf
    refine ⟨⟨rfl, rfl, rfl, rfl, rfl, trivial⟩, ?_⟩
    conv => whnf
    refine ⟨⟨⟨_, Tryz.func197, rfl, by kernel_rfl⟩, CallS.use (right R.e 11 (by decide) (by decide) H3) [] rfl rfl trivial ?_⟩, trivial⟩
    rintro e H4 G' hle4 ⟨rfl, rfl, rfl⟩
    conv => whnf
    refine ⟨⟨rfl, rfl, rfl, rfl, rfl, trivial⟩, ?_⟩
    conv => whnf
    refine ⟨⟨⟨_, Tryz.func197, rfl, by kernel_rfl⟩, CallS.use (right R.e 25 (by decide) (by decide) H4) [] rfl rfl trivial ?_⟩, trivial⟩
    rintro e H5 G' hle5 ⟨rfl, rfl, rfl⟩
    conv => whnf
    refine ⟨⟨rfl, rfl, rfl, rfl, rfl, trivial⟩, ?_⟩
    conv => whnf
    refine ⟨⟨⟨_, Tryz.func198, rfl, by kernel_rfl⟩, CallS.use (kOf t ht H5) [] rfl rfl trivial ?_⟩, trivial⟩
    rintro e H6 G' hle6 ⟨rfl, rfl, rfl⟩
    conv => whnf
    refine ⟨⟨rfl, rfl, rfl, rfl, rfl, trivial⟩, ?_⟩
    conv => whnf
    refine WS.draw tab mixed (.take 0 (.take 1 (.take 3 (.take 4 (.take 7 (.take 8 (.take 11 (.take 12 (.take 13 (.take 14 (.take 15 (.take 16 (.take 17 (.take 18 (.take 19 (.take 20 (.take 21 (.take 22 (.take 23 (.take 24 (.take 25 (.take 26 (.take 27 (.alt 2 (.alt 5 (.take 6 (.alt 9 (.take 10 (.take 28 (.take 29 .done))) .no)) .no) .no)))))))))))))))))))))))) (by kernel_rfl) [] ?_
    conv => whnf
    iterate 9 (refine ⟨by decide, ?_⟩; conv => whnf)
    refine ⟨⟨⟨_, Tryz.func197, rfl, by kernel_rfl⟩, CallS.use (right R.a 2 (by decide) (by decide) H6) [] rfl rfl trivial ?_⟩, trivial⟩
    rintro e H7 G' hle7 ⟨rfl, rfl, rfl⟩
    conv => whnf
    refine ⟨⟨rfl, rfl, rfl, rfl, rfl, trivial⟩, ?_⟩
    conv => whnf
    refine ⟨⟨⟨_, Tryz.func197, rfl, by kernel_rfl⟩, CallS.use (right R.a 13 (by decide) (by decide) H7) [] rfl rfl trivial ?_⟩, trivial⟩
    rintro e H8 G' hle8 ⟨rfl, rfl, rfl⟩
    conv => whnf
    refine ⟨⟨rfl, rfl, rfl, rfl, rfl, trivial⟩, ?_⟩
    conv => whnf
    refine ⟨⟨⟨_, Tryz.func197, rfl, by kernel_rfl⟩, CallS.use (right R.a 22 (by decide) (by decide) H8) [] rfl rfl trivial ?_⟩, trivial⟩
    rintro e H9 G' hle9 ⟨rfl, rfl, rfl⟩
    conv => whnf
    refine ⟨⟨rfl, rfl, rfl, rfl, rfl, trivial⟩, ?_⟩
    conv => whnf
    iterate 7 (refine ⟨by decide, ?_⟩; conv => whnf)
    rw [wrap64 (x := (t : Int) + 1) (by omega) (by omega)]
    refine br.of (fun h1 => ?_) (fun h1 => ?_) <;> conv => whnf
    · simp only [decide_eq_true_eq] at h1
      simp only [u_not, u_xor, u_and, u_add]
      refine ⟨64 - (t + 1), by omega, _, _, [0, 1, 2, 3, 4], ⟨t + 1, by omega, rfl, rfl, rfl, rfl⟩, rfl, ⟨rfl, rfl, rfl, .inl rfl, ?_, trivial⟩, rfl, rfl, rfl, rfl, rfl, trivial⟩
      show _ = SB.box 190 (((rounds bs st t).round (kAt t) (wAt bs t)).cells.map (SC.ren [0, 1, 2, 3, 4]))
      rw [hR]
      rfl
    · simp only [decide_eq_false_iff_not] at h1
      obtain rfl : t = 63 := by omega
      simp only [u_not, u_xor, u_and, u_add]
      refine WS.loop (fun m F H3 G => ∃ k : Nat, k ≤ 8 ∧ m = 8 - k ∧ F = [(4, .si (.ce (.ptr 2 0))), (6, .si (.ce (.ptr 4 0))), (102, .si (.ag st.cells)), (103, pv (.int .i64 k))] ∧ H3 = H9 ∧
          G = [.row 5 1 n (bCells bs), .box 190 st.cells, .box 190 zero8, .arr 232 (wVals bs), .box 190 (addC (rounds bs st 64) st k)]) 9
        ⟨8, by decide, _, _, [0, 1, 2, 3, 4], ⟨0, by decide, rfl, rfl, rfl, rfl⟩, rfl, ⟨rfl, rfl, rfl, .inl rfl, ?_, trivial⟩, rfl, rfl, rfl, rfl, trivial⟩ ?_
      · show _ = SB.box _ (((rounds bs st 63).round (kAt 63) (wAt bs 63)).cells.map (SC.ren [0, 1, 2, 3, 4]))
        rw [hR]; rfl
      clear hR
      rintro m F H3 G hle10 ⟨k, hk, rfl, rfl, rfl, rfl⟩
      refine codeL.go tab ?_
      unfold compressP
      generalize rounds bs st 64 = R2
      have hk9 : k = 0 ∨ k = 1 ∨ k = 2 ∨ k = 3 ∨ k = 4 ∨ k = 5 ∨ k = 6 ∨ k = 7 ∨ k = 8 := by omega
      rcases hk9 with rfl | rfl | rfl | rfl | rfl | rfl | rfl | rfl | rfl
      all_goals conv => whnf
      all_goals first
        | exact ⟨rfl, rfl, rfl⟩
        | (iterate 4 (first | (refine ⟨by decide, ?_⟩; conv => whnf) | (refine ⟨_, rfl, ?_⟩; conv => whnf))
           rw [u_add]
           first | exact ⟨7, by decide, _, _, [0, 1, 2, 3, 4], ⟨1, by decide, rfl, rfl, rfl, rfl⟩, rfl, ⟨rfl, rfl, rfl, .inl rfl, rfl, trivial⟩, rfl, rfl, rfl, rfl, trivial⟩ | exact ⟨6, by decide, _, _, [0, 1, 2, 3, 4], ⟨2, by decide, rfl, rfl, rfl, rfl⟩, rfl, ⟨rfl, rfl, rfl, .inl rfl, rfl, trivial⟩, rfl, rfl, rfl, rfl, trivial⟩ | exact ⟨5, by decide, _, _, [0, 1, 2, 3, 4], ⟨3, by decide, rfl, rfl, rfl, rfl⟩, rfl, ⟨rfl, rfl, rfl, .inl rfl, rfl, trivial⟩, rfl, rfl, rfl, rfl, trivial⟩ | exact ⟨4, by decide, _, _, [0, 1, 2, 3, 4], ⟨4, by decide, rfl, rfl, rfl, rfl⟩, rfl, ⟨rfl, rfl, rfl, .inl rfl, rfl, trivial⟩, rfl, rfl, rfl, rfl, trivial⟩ | exact ⟨3, by decide, _, _, [0, 1, 2, 3, 4], ⟨5, by decide, rfl, rfl, rfl, rfl⟩, rfl, ⟨rfl, rfl, rfl, .inl rfl, rfl, trivial⟩, rfl, rfl, rfl, rfl, trivial⟩ | exact ⟨2, by decide, _, _, [0, 1, 2, 3, 4], ⟨6, by decide, rfl, rfl, rfl, rfl⟩, rfl, ⟨rfl, rfl, rfl, .inl rfl, rfl, trivial⟩, rfl, rfl, rfl, rfl, trivial⟩ | exact ⟨1, by decide, _, _, [0, 1, 2, 3, 4], ⟨7, by decide, rfl, rfl, rfl, rfl⟩, rfl, ⟨rfl, rfl, rfl, .inl rfl, rfl, trivial⟩, rfl, rfl, rfl, rfl, trivial⟩ | exact ⟨0, by decide, _, _, [0, 1, 2, 3, 4], ⟨8, by decide, rfl, rfl, rfl, rfl⟩, rfl, ⟨rfl, rfl, rfl, .inl rfl, rfl, trivial⟩, rfl, rfl, rfl, rfl, trivial⟩)
  · intro hr
    refine codeL.seqTo tab (fun F H2 G => H2 = H ∧ F = [(2, .si (.ce (.ptr 1 0))), (4, .si (.ce (.ptr 2 0))), (5, .si (.ce (.ptr 3 0))), (6, .si (.ce (.ptr 4 0))), (7, pv (.int .i64 0))] ∧ G = [.row 5 1 n (bCells bs), .box 190 st.cells, .box 190 zero8, .arr 232 (wVals bs), .box 190 st.cells]) ?_ ?_
    · conv => whnf
      refine WS.draw tab mixed (.take 0 (.take 2 (.alt 1 (.alt 3 (.alt 4 (.alt 5 (.alt 6 (.take 7 .done) .no) .no) .no) (.alt 4 (.alt 3 (.alt 5 (.alt 6 (.take 7 .done) .no) .no) .no) .no)) (.alt 3 (.alt 1 (.alt 4 (.alt 5 (.alt 6 (.take 7 .done) .no) .no) .no) (.alt 4 (.alt 1 (.alt 5 (.alt 6 (.take 7 .done) .no) .no) .no) .no)) (.alt 4 (.alt 1 (.alt 3 (.alt 5 (.alt 6 (.take 7 .done) .no) .no) .no) (.alt 3 (.alt 1 (.alt 5 (.alt 6 (.take 7 .done) .no) .no) .no) .no)) .no))))) (by kernel_rfl) [] ?_
      conv => whnf
      repeat' (first
        | exact trivial
        | exact rfl
        | exact ⟨_, Tryz.func196, rfl, by kernel_rfl⟩
        | exact ⟨_, _, [0, 1, 2, 3, 4], ⟨rfl, rfl, rfl⟩, rfl, ⟨rfl, rfl, rfl, .inr rfl, rfl, trivial⟩, rfl, rfl, rfl, rfl, rfl, trivial⟩
        | exact ⟨_, _, [0, 1, 2, 4, 3], ⟨rfl, rfl, rfl⟩, rfl, ⟨rfl, rfl, rfl, .inr rfl, rfl, trivial⟩, rfl, rfl, rfl, rfl, rfl, trivial⟩
        | (refine CallS.use (schedule n bs hn hl _) [0] rfl rfl ⟨rfl, trivial⟩ ?_; rintro e H' G' hle ⟨rfl, rfl, rfl⟩; conv => whnf)
        | (refine And.intro ?_ ?_ <;> conv => whnf))
    · rintro F H2 G hle ⟨rfl, rfl, rfl⟩
      refine codeL.seqTo tab (RI st n bs H2 64) ?_ fun F' H' G' hle hI => codeL.label (hr F' H' G' hle hI)
      conv => whnf
      exact ⟨_, _, [0, 1, 2, 3, 4], ⟨0, by decide, rfl, rfl, rfl, rfl⟩, rfl, ⟨rfl, rfl, rfl, .inl rfl, rfl, trivial⟩, rfl, rfl, rfl, rfl, rfl, trivial⟩
end Go.Kx.Sha
namespace Go.Kx.Sha
open Go.Proofs Go.Kx

def blocks : Nat → St8 → List UInt8 → St8
 | 0, s, _ => s
 | n + 1, s, b => blocks n (compressP b s) (b.drop 64)
theorem schedN_ext {a b : List UInt8} (h : ∀ i, i < 64 → byteN a i = byteN b i) : ∀ t, schedN a t = schedN b t := by
 have hw : ∀ j, j < 16 → word a j = word b j := by
  intro j hj
  unfold word by32
  rw [h _ (by omega), h _ (by omega), h _ (by omega), h _ (by omega)]
 intro t
 induction t with
 | zero => rfl
 | succ t ih =>
  simp only [schedN, ih]
  by_cases ht : t < 16
  ·rw [if_pos ht, if_pos ht, hw t ht]
  ·rw [if_neg ht, if_neg ht]
theorem compressP_ext {a b : List UInt8} (h : ∀ i, i < 64 → byteN a i = byteN b i) (s : St8) : compressP a s = compressP b s := by
 have hr : ∀ t, rounds a s t = rounds b s t := by
  intro t
  induction t with
  | zero => rfl
  | succ t ih => unfold rounds wAt; rw [ih, schedN_ext h]
 unfold compressP
 rw [hr]
theorem compressP_append {a : List UInt8} (b : List UInt8) (h : 64 ≤ a.length) (s : St8) : compressP (a ++ b) s = compressP a s := by
 refine compressP_ext (fun i hi => ?_) s
 unfold byteN
 rw [List.getD_eq_getElem?_getD, List.getElem?_append_left (by omega), ← List.getD_eq_getElem?_getD]
theorem blocks_append (y : List UInt8) : ∀ (n : Nat) (s : St8) (x : List UInt8), n * 64 ≤ x.length → blocks n s (x ++ y) = blocks n s x
 | 0, _, _, _ => rfl
 | n + 1, s, x, h => by
  unfold blocks
  rw [compressP_append y (by omega), List.drop_append_of_le_length (by omega)]
  exact blocks_append y n _ _ (by simp; omega)
theorem blocks_add : ∀ (a b : Nat) (s : St8) (x : List UInt8), blocks (a + b) s x = blocks b (blocks a s x) (x.drop (64 * a))
 | 0, b, s, x => by simp [blocks]
 | a + 1, b, s, x => by
  rw [show a + 1 + b = (a + b) + 1 by omega]
  show blocks (a + b) (compressP x s) (x.drop 64) = blocks b (blocks a (compressP x s) (x.drop 64)) (x.drop (64 * (a + 1)))
  rw [blocks_add a b, List.drop_drop, show 64 + 64 * a = 64 * (a + 1) by omega]
theorem blocks_succ (n : Nat) (s : St8) (x : List UInt8) : blocks (n + 1) s x = compressP (x.drop (64 * n)) (blocks n s x) := by
 rw [blocks_add n 1]; rfl

def init8 : St8 := ⟨1779033703, 3144134277, 1013904242, 2773480762, 1359893119, 2600822924, 528734635, 1541459225⟩
def hst (m : List UInt8) : St8 := blocks (m.length / 64) init8 m
def rst (m : List UInt8) : List UInt8 := m.drop (64 * (m.length / 64))
theorem rst_length (m : List UInt8) : (rst m).length = m.length % 64 := by unfold rst; rw [List.length_drop]; omega
theorem split_rst (m : List UInt8) : m.take (64 * (m.length / 64)) ++ rst m = m := List.take_append_drop _ _
theorem hst_append (m b : List UInt8) : hst (m ++ b) = blocks ((rst m ++ b).length / 64) (hst m) (rst m ++ b) := by
 have hl : (m ++ b).length / 64 = m.length / 64 + (rst m ++ b).length / 64 := by
  rw [List.length_append, List.length_append, rst_length]; omega
 have hd : (m ++ b).drop (64 * (m.length / 64)) = rst m ++ b := by
  rw [List.drop_append_of_le_length (by omega)]; rfl
 unfold hst
 rw [hl, blocks_add, hd, blocks_append b (m.length / 64) init8 m (by omega)]
theorem rst_append (m b : List UInt8) : rst (m ++ b) = (rst m ++ b).drop (64 * ((rst m ++ b).length / 64)) := by
 have hl : (m ++ b).length / 64 = m.length / 64 + (rst m ++ b).length / 64 := by
  rw [List.length_append, List.length_append, rst_length]; omega
 have hd : (m ++ b).drop (64 * (m.length / 64)) = rst m ++ b := by
  rw [List.drop_append_of_le_length (by omega)]; rfl
 show (m ++ b).drop (64 * ((m ++ b).length / 64)) = _
 rw [hl, Nat.mul_add, ← List.drop_drop, hd]

def byteOf (n : Int) : UInt8 := UInt8.ofNat (n % 256).toNat
def be8 (n : Nat) : List UInt8 := [byteOf (n / 2 ^ 56 : Nat), byteOf (n / 2 ^ 48 : Nat), byteOf (n / 2 ^ 40 : Nat), byteOf (n / 2 ^ 32 : Nat), byteOf (n / 2 ^ 24 : Nat), byteOf (n / 2 ^ 16 : Nat), byteOf (n / 2 ^ 8 : Nat), byteOf (n : Nat)]
def padN (n : Nat) : Nat := (119 - n % 64) % 64
def tailOf (r : List UInt8) (n : Nat) : List UInt8 := r ++ 128 :: (List.replicate (padN r.length) 0 ++ be8 (8 * n))
def be4 (x : BitVec 32) : List UInt8 := [byteOf (x.toNat / 2 ^ 24 : Nat), byteOf (x.toNat / 2 ^ 16 : Nat), byteOf (x.toNat / 2 ^ 8 : Nat), byteOf (x.toNat : Nat)]
def outB (s : St8) : List UInt8 := be4 s.a ++ (be4 s.b ++ (be4 s.c ++ (be4 s.d ++ (be4 s.e ++ (be4 s.f ++ (be4 s.g ++ be4 s.h))))))
def sha (m : List UInt8) : List UInt8 := outB (hst (tailOf m m.length))
theorem sha_length (m : List UInt8) : (sha m).length = 32 := rfl
theorem tailOf_length (r : List UInt8) (n : Nat) : (tailOf r n).length = r.length + 1 + padN r.length + 8 := by
 unfold tailOf; simp [be8]; omega
theorem tailOf_mod (r : List UInt8) (n : Nat) : (tailOf r n).length % 64 = 0 := by
 rw [tailOf_length]; unfold padN; omega
theorem padN_mod (n : Nat) : padN (n % 64) = padN n := by unfold padN; omega
theorem sha_eq (m : List UInt8) : sha m = outB (blocks ((tailOf (rst m) m.length).length / 64) (hst m) (tailOf (rst m) m.length)) := by
 have h : tailOf m m.length = m ++ (128 :: (List.replicate (padN m.length) 0 ++ be8 (8 * m.length))) := rfl
 have h2 : rst m ++ (128 :: (List.replicate (padN m.length) 0 ++ be8 (8 * m.length))) = tailOf (rst m) m.length := by
  unfold tailOf; rw [rst_length, padN_mod]
 unfold sha
 rw [h, hst_append, h2]
end Go.Kx.Sha
namespace Go.Kx.Sha
open Go.Proofs Go.Kx
set_option maxRecDepth 20000

def hBox (k : Nat) (m : List UInt8) : SB := .box 192 ((hst m).cells ++ [.self k, .val (.int .i64 m.length)])
def hRow (m : List UInt8) : SB := .row 5 1 (rst m).length (bCells (rst m))
theorem new_ (H : Hp) : CallO Tryz.prog 116 [] H [] fun e H' G' => e = .ret (.si (.ce (.ptr 0 0))) ∧ H' = H ∧ G' = [hBox 1 [], hRow []] := by
 refine CallO.nilCell (K0 := fun e H' G' => e = .ret (.si (.ce (.ptr 0 0))) ∧ H' = H ∧ G' = [.box 192 (init8.cells ++ [.val (.slice none 0 0), .val (.int .i64 0)])]) ?_ ?_
 ·refine CallO.of_body tab Tryz.func116 rfl (nt := Tryz.f116.ntmps) rfl (by kernel_rfl) ?_
  (conv => whnf)
  exact ⟨rfl, rfl, rfl⟩
 ·rintro e H' G' hle ⟨rfl, rfl, rfl⟩
  exact .inr ⟨0, 8, _, _, 5, 1, rfl, rfl, rfl, rfl, rfl⟩
theorem row_cut (all : List UInt8) (i : Nat) : SB.row 5 1 ((all.drop (64 * i)).length - Int.toNat 64) ((bCells (all.drop (64 * i))).drop (Int.toNat 64 * 1)) = SB.row 5 1 (all.drop (64 * (i + 1))).length (bCells (all.drop (64 * (i + 1)))) := by
 have e : Int.toNat 64 = 64 := rfl
 rw [e, Nat.mul_one, bCells_drop, List.drop_drop, ← List.length_drop, List.drop_drop, Nat.mul_succ]
def WI (m bs : List UInt8) (n : Nat) (H : Hp) (k : Nat) (F : Fr) (H3 : Hp) (G : List SB) : Prop :=
 ∃ i : Nat, i ≤ (rst m ++ bs).length / 64 ∧ k = (rst m ++ bs).length / 64 - i ∧ F = [(0, .si (.ce (.ptr 0 0)))] ∧ H3 = H ∧
    G = [.box 192 ((blocks i (hst m) (rst m ++ bs)).cells ++ [.self 2, .val (.int .i64 ((m.length : Int) + n))]), .dead, .row 5 1 ((rst m ++ bs).drop (64 * i)).length (bCells ((rst m ++ bs).drop (64 * i)))]
theorem write (m bs : List UInt8) (A : Option Addr) (n cap : Nat) (H : Hp) (hb : BytesAt H A n bs) (hl : m.length + n ≤ 1000000000) :
  CallO Tryz.prog 117 [.si (.ce (.ptr 0 0)), pv (.slice A n cap)] H [hBox 1 m, hRow m] fun e H' G' => e = .ret (.tu []) ∧ H' = H ∧ G' = [hBox 2 (m ++ bs), .dead, hRow (m ++ bs)] := by
 have hr := rst_length m
 obtain ⟨hn, hA, hrd⟩ := hb
 have fin : ∀ i, i = (rst m ++ bs).length / 64 → (SB.box 192 ((blocks i (hst m) (rst m ++ bs)).cells ++ [.self 2, .val (.int .i64 ((m.length : Int) + n))]) = hBox 2 (m ++ bs)) ∧ (SB.row 5 1 ((rst m ++ bs).drop (64 * i)).length (bCells ((rst m ++ bs).drop (64 * i))) = hRow (m ++ bs)) := by
  intro i hi
  subst hi
  refine ⟨?_, ?_⟩
  ·unfold hBox
   have hlen : (m ++ bs).length = m.length + bs.length := List.length_append
   rw [hst_append, hlen, hn, Int.natCast_add]
  ·unfold hRow
   rw [rst_append]
 have hal : (rst m ++ bs).length = (rst m).length + n := by rw [List.length_append, hn]
 refine CallO.of_body tab Tryz.func117 rfl (nt := Tryz.f117.ntmps) rfl (by kernel_rfl) ?_
 (conv => whnf)
 rw [wrap64 (by omega) (by omega)]
 cases A with
 | none =>
  have hbs := hA rfl
  obtain rfl : n = 0 := by rw [hn, hbs]; rfl
  (conv => whnf)
  refine ⟨by show ((rst m).length + 0) * 2 ≤ _; omega, ?_⟩
  (conv => whnf)
  refine WS.loop (WI m bs 0 H) ((rst m ++ bs).length / 64 + 1) ?_ ?_
  ·refine ⟨(rst m ++ bs).length / 64, by omega, _, _, [0, 1, 2], ⟨0, by omega, rfl, rfl, rfl, rfl⟩, ?_⟩
   refine ⟨rfl, ⟨rfl, trivial, ?_, trivial⟩, rfl, trivial⟩
   show SB.row 5 1 ((rst m).length + 0) (bCells (rst m) ++ []) = SB.row 5 1 ((rst m ++ bs).drop (64 * 0)).length (bCells ((rst m ++ bs).drop (64 * 0)))
   rw [hbs, Nat.mul_zero, List.drop_zero, List.append_nil, List.append_nil]; rfl
  ·unfold WI
   generalize rst m ++ bs = all at *
   generalize hst m = s0 at *
   rintro k F H3 G hle ⟨i, hi, rfl, rfl, rfl, rfl⟩
   refine codeL.go tab ?_
   (conv => whnf)
   have hdl : (all.drop (64 * i)).length = all.length - 64 * i := List.length_drop
   refine br.of (fun h1 => ?_) (fun h1 => ?_) <;> (conv => whnf)
   ·simp only [ge_iff_le, decide_eq_true_eq] at h1
    refine WS.draw tab mixed (.take 0 (.take 1 (.take 2 (.take 3 (.take 5 (.take 6 (.take 7 (.alt 4 (.alt 8 (.alt 9 (.take 10 (.take 11 (.alt 12 .done .no))) .no) .no) (.alt 8 (.alt 4 (.alt 9 (.take 10 (.take 11 (.alt 12 .done .no))) .no) .no) .no))))))))) (by kernel_rfl) [0, 1, 2] ?_
    (conv => whnf)
    refine ⟨?_, ?_, trivial⟩ <;> (conv => whnf)
    all_goals
     refine ⟨⟨trivial, trivial, trivial, trivial⟩, ?_⟩
     (conv => whnf)
     refine ⟨?_, trivial⟩
     (conv => whnf)
     refine ⟨⟨trivial, trivial, trivial, trivial⟩, ?_⟩
     (conv => whnf)
     refine ⟨⟨⟨_, Tryz.func155, rfl, by kernel_rfl⟩, CallS.use (compress (blocks i s0 all) (all.drop (64 * i)).length (all.drop (64 * i)) (by omega) rfl H3) [2] rfl rfl ⟨rfl, trivial⟩ ?_⟩, trivial⟩
     rintro e H' G' hle2 ⟨rfl, rfl, rfl⟩
     (conv => whnf)
     refine ⟨⟨trivial, trivial, trivial, trivial⟩, ?_⟩
     (conv => whnf)
     refine ⟨?_, trivial⟩
     (conv => whnf)
     refine ⟨⟨trivial, trivial, trivial, trivial⟩, ?_⟩
     (conv => whnf)
     refine ⟨⟨by omega, by omega⟩, ?_⟩
     (conv => whnf)
     refine ⟨all.length / 64 - (i + 1), by omega, _, _, [0, 1, 3], ⟨i + 1, by omega, rfl, rfl, rfl, rfl⟩, ?_⟩
     refine ⟨rfl, ⟨?_, trivial, ?_, trivial⟩, rfl, trivial⟩
     ·rw [blocks_succ]; rfl
     ·exact row_cut all i
   ·simp only [ge_iff_le, decide_eq_false_iff_not] at h1
    obtain ⟨f1, f2⟩ := fin i (by omega)
    exact ⟨rfl, rfl, by rw [← f1, ← f2]⟩
 | some a =>
  refine ⟨bCells bs, by rw [bCells_length, hn]; exact (Nat.mul_one _).symm, hrd a rfl, bCells_one bs, ?_⟩
  (conv => whnf)
  refine ⟨by show ((rst m).length + n) * 2 ≤ _; omega, ?_⟩
  (conv => whnf)
  refine WS.loop (WI m bs n H) ((rst m ++ bs).length / 64 + 1) ?_ ?_
  ·refine ⟨(rst m ++ bs).length / 64, by omega, _, _, [0, 1, 2], ⟨0, by omega, rfl, rfl, rfl, rfl⟩, ?_⟩
   refine ⟨rfl, ⟨rfl, trivial, ?_, trivial⟩, rfl, trivial⟩
   show SB.row 5 1 ((rst m).length + n) (bCells (rst m) ++ bCells bs) = SB.row 5 1 ((rst m ++ bs).drop (64 * 0)).length (bCells ((rst m ++ bs).drop (64 * 0)))
   rw [bCells_append, Nat.mul_zero, List.drop_zero, List.length_append, hn]
  ·unfold WI
   generalize rst m ++ bs = all at *
   generalize hst m = s0 at *
   rintro k F H3 G hle ⟨i, hi, rfl, rfl, rfl, rfl⟩
   refine codeL.go tab ?_
   (conv => whnf)
   have hdl : (all.drop (64 * i)).length = all.length - 64 * i := List.length_drop
   refine br.of (fun h1 => ?_) (fun h1 => ?_) <;> (conv => whnf)
   ·simp only [ge_iff_le, decide_eq_true_eq] at h1
    refine WS.draw tab mixed (.take 0 (.take 1 (.take 2 (.take 3 (.take 5 (.take 6 (.take 7 (.alt 4 (.alt 8 (.alt 9 (.take 10 (.take 11 (.alt 12 .done .no))) .no) .no) (.alt 8 (.alt 4 (.alt 9 (.take 10 (.take 11 (.alt 12 .done .no))) .no) .no) .no))))))))) (by kernel_rfl) [0, 1, 2] ?_
    (conv => whnf)
    refine ⟨?_, ?_, trivial⟩ <;> (conv => whnf)
    all_goals
     refine ⟨⟨trivial, trivial, trivial, trivial⟩, ?_⟩
     (conv => whnf)
     refine ⟨?_, trivial⟩
     (conv => whnf)
     refine ⟨⟨trivial, trivial, trivial, trivial⟩, ?_⟩
     (conv => whnf)
     refine ⟨⟨⟨_, Tryz.func155, rfl, by kernel_rfl⟩, CallS.use (compress (blocks i s0 all) (all.drop (64 * i)).length (all.drop (64 * i)) (by omega) rfl H3) [2] rfl rfl ⟨rfl, trivial⟩ ?_⟩, trivial⟩
     rintro e H' G' hle2 ⟨rfl, rfl, rfl⟩
     (conv => whnf)
     refine ⟨⟨trivial, trivial, trivial, trivial⟩, ?_⟩
     (conv => whnf)
     refine ⟨?_, trivial⟩
     (conv => whnf)
     refine ⟨⟨trivial, trivial, trivial, trivial⟩, ?_⟩
     (conv => whnf)
     refine ⟨⟨by omega, by omega⟩, ?_⟩
     (conv => whnf)
     refine ⟨all.length / 64 - (i + 1), by omega, _, _, [0, 1, 3], ⟨i + 1, by omega, rfl, rfl, rfl, rfl⟩, ?_⟩
     refine ⟨rfl, ⟨?_, trivial, ?_, trivial⟩, rfl, trivial⟩
     ·rw [blocks_succ]; rfl
     ·exact row_cut all i
   ·simp only [ge_iff_le, decide_eq_false_iff_not] at h1
    obtain ⟨f1, f2⟩ := fin i (by omega)
    exact ⟨rfl, rfl, by rw [← f1, ← f2]⟩
end Go.Kx.Sha
namespace Go.Kx.Sha
open Go.Proofs Go.Kx
set_option maxRecDepth 20000

theorem wrap8 (x : Int) : IntKind.u8.wrap x = x % 256 := by simp [IntKind.wrap, IntKind.bits, IntKind.signed]
theorem byteOf_toNat (n : Nat) : ((byteOf (n : Int)).toNat : Int) = n % 256 := by
  unfold byteOf
  have : ((n : Int) % 256).toNat < 256 := by omega
  rw [UInt8.toNat_ofNat', Nat.mod_eq_of_lt this]; omega
theorem fdiv_pow (N k : Nat) : ((N : Int).fdiv (2 ^ k)) = ((N / 2 ^ k : Nat) : Int) := by
  rw [Int.fdiv_eq_ediv_of_nonneg _ (by exact Int.le_of_lt (Int.pow_pos (by decide))), Int.natCast_ediv, Int.natCast_pow]; rfl
theorem sh8 (N k : Nat) (b : Nat) (hk : k ≤ b) : IntKind.u8.wrap ((N : Int).fdiv (2 ^ min k b)) = ((byteOf (N / 2 ^ k : Nat)).toNat : Int) := by
  rw [Nat.min_eq_left hk, fdiv_pow, wrap8, byteOf_toNat]
theorem be8_get (N : Nat) : ∀ j, j < 8 → (be8 N)[j]? = some (byteOf (N / 2 ^ (56 - 8 * j) : Nat)) := by
  intro j hj
  have : j = 0 ∨ j = 1 ∨ j = 2 ∨ j = 3 ∨ j = 4 ∨ j = 5 ∨ j = 6 ∨ j = 7 := by omega
  rcases this with rfl | rfl | rfl | rfl | rfl | rfl | rfl | rfl <;> first | rfl | (simp [be8])
theorem take_get {l : List UInt8} {j : Nat} {x : UInt8} (h : l[j]? = some x) : l.take (j + 1) = l.take j ++ [x] := by
  obtain ⟨hj, rfl⟩ := List.getElem?_eq_some_iff.1 h
  exact List.take_succ_eq_append_getElem hj
theorem ones4 (k : IntKind) (a b c d : Int) : ∀ u ∈ [Value.int k a, .int k b, .int k c, .int k d], u.oneCell' = true := by
  intro u hu
  simp only [List.mem_cons, List.not_mem_nil, or_false] at hu
  rcases hu with rfl | rfl | rfl | rfl <;> rfl
def outT (s : St8) : Nat → List UInt8
  | 0 => []
  | 1 => be4 s.a
  | 2 => be4 s.a ++ be4 s.b
  | 3 => be4 s.a ++ be4 s.b ++ be4 s.c
  | 4 => be4 s.a ++ be4 s.b ++ be4 s.c ++ be4 s.d
  | 5 => be4 s.a ++ be4 s.b ++ be4 s.c ++ be4 s.d ++ be4 s.e
  | 6 => be4 s.a ++ be4 s.b ++ be4 s.c ++ be4 s.d ++ be4 s.e ++ be4 s.f
  | 7 => be4 s.a ++ be4 s.b ++ be4 s.c ++ be4 s.d ++ be4 s.e ++ be4 s.f ++ be4 s.g
  | _ => be4 s.a ++ be4 s.b ++ be4 s.c ++ be4 s.d ++ be4 s.e ++ be4 s.f ++ be4 s.g ++ be4 s.h
theorem outT_all (s : St8) : outT s 8 = outB s := by unfold outT outB; simp only [List.append_assoc]
theorem be4_cells (x : BitVec 32) : [Value.int .u8 (IntKind.u8.wrap ((u x).fdiv (2 ^ min (Int.toNat 24) IntKind.u32.bits))), .int .u8 (IntKind.u8.wrap ((u x).fdiv (2 ^ min (Int.toNat 16) IntKind.u32.bits))), .int .u8 (IntKind.u8.wrap ((u x).fdiv (2 ^ min (Int.toNat 8) IntKind.u32.bits))), .int .u8 (IntKind.u8.wrap (u x))] = bCells (be4 x) := by
  unfold u
  rw [show Int.toNat 24 = 24 from rfl, show Int.toNat 16 = 16 from rfl, show Int.toNat 8 = 8 from rfl, sh8 _ 24 _ (by decide), sh8 _ 16 _ (by decide), sh8 _ 8 _ (by decide)]
  have : IntKind.u8.wrap (x.toNat : Int) = ((byteOf (x.toNat : Nat)).toNat : Int) := by rw [wrap8, byteOf_toNat]
  rw [this]; rfl
theorem row_out (t : TypeId) (n : Nat) (a : List UInt8) (x : BitVec 32) : SB.row t 1 (n + 4) (bCells a ++ [Value.int .u8 (IntKind.u8.wrap ((u x).fdiv (2 ^ min (Int.toNat 24) IntKind.u32.bits))), .int .u8 (IntKind.u8.wrap ((u x).fdiv (2 ^ min (Int.toNat 16) IntKind.u32.bits))), .int .u8 (IntKind.u8.wrap ((u x).fdiv (2 ^ min (Int.toNat 8) IntKind.u32.bits))), .int .u8 (IntKind.u8.wrap (u x))]) = SB.row t 1 (n + 4) (bCells (a ++ be4 x)) := by
  rw [be4_cells, bCells_append]
theorem sum (m : List UInt8) (H : Hp) (hl : m.length ≤ 1000000000) :
    CallO Tryz.prog 120 [.si (.ce (.ptr 0 0))] H [hBox 1 m, hRow m] fun e _ G' => e = .ret (.si (.ce (.self 2))) ∧ G' = [hBox 1 m, hRow m, .row 5 1 32 (bCells (sha m))] := by
  have hr := rst_length m
  refine CallO.of_bodyW tab Tryz.func120 rfl (nt := Tryz.f120.ntmps) rfl (by kernel_rfl) ?_
  refine W.seqS (codeX_ok tab _ ?_)
  (conv => whnf)
  refine WS.seqTo tab (fun F H2 G => H.Le H2 ∧ F = [(0, .si (.ce (.ptr 0 0))), (3, .si (.ce (.self 2)))] ∧ G = [hBox 1 m, hRow m, .row 5 1 ((rst m).length + 1) (bCells (rst m ++ [128]))]) ?_ ?_
  · (conv => whnf)
    refine ⟨by decide, .inl ?_⟩
    intro g H2 hle hrd
    (conv => whnf)
    refine ⟨bCells_one _, fun h0 => ?_, fun h0 => ?_⟩
    · refine ⟨Nat.le_refl _, ⟨g, 0, rfl⟩, ?_⟩
      (conv => whnf)
      refine ⟨by decide, .inl ?_⟩
      intro g2 H3 hle2 hrd2
      (conv => whnf)
      refine ⟨[.int .u8 128], rfl, hrd2, fun u hu => by rcases List.mem_singleton.1 hu with rfl; rfl, fun h => (nomatch h), fun _ => ⟨rfl, [], rfl, hrd.mono hle2, by decide, ?_⟩⟩
      (conv => whnf)
      refine ⟨_, _, [0, 1, 2], ⟨hle.trans hle2, rfl, rfl⟩, ?_⟩
      refine ⟨rfl, ⟨rfl, rfl, ?_, trivial⟩, rfl, rfl, trivial⟩
      have hnil : rst m = [] := List.eq_nil_of_length_eq_zero h0
      rw [hnil]; rfl
    · refine ⟨rfl, [], rfl, hrd, by show _ * 2 ≤ _; omega, ?_⟩
      (conv => whnf)
      refine ⟨by decide, .inl ?_⟩
      intro g2 H3 hle2 hrd2
      (conv => whnf)
      refine ⟨[.int .u8 128], rfl, hrd2, fun u hu => by rcases List.mem_singleton.1 hu with rfl; rfl, ?_⟩
      (conv => whnf)
      refine ⟨by show _ * 2 ≤ _; omega, ?_⟩
      (conv => whnf)
      refine ⟨_, _, [0, 1, 3], ⟨hle.trans hle2, rfl, rfl⟩, ?_⟩
      refine ⟨rfl, ⟨rfl, rfl, ?_, trivial⟩, rfl, rfl, trivial⟩
      show SB.row 5 1 (0 + (rst m).length + 1) ([] ++ bCells (rst m) ++ [.int .u8 128]) = SB.row 5 1 ((rst m).length + 1) (bCells (rst m ++ [128]))
      rw [Nat.zero_add, List.nil_append, ← bCells_append]; rfl
  · rintro F H2 G hle ⟨hle', rfl, rfl⟩
    refine codeL.go tab ?_
    (conv => whnf)
    refine WS.loop (fun k F H3 G => ∃ z : Nat, z ≤ padN (rst m).length ∧ k = padN (rst m).length - z ∧ F = [(0, .si (.ce (.ptr 0 0))), (3, .si (.ce (.self 2)))] ∧ H.Le H3 ∧
        G = [hBox 1 m, hRow m, .row 5 1 ((rst m).length + 1 + z) (bCells (rst m ++ 128 :: List.replicate z 0))]) (padN (rst m).length + 1) ?_ ?_
    · refine ⟨padN (rst m).length, by omega, _, _, [0, 1, 2], ⟨0, by omega, rfl, rfl, hle', rfl⟩, ?_⟩
      exact ⟨rfl, ⟨rfl, rfl, rfl, trivial⟩, rfl, rfl, trivial⟩
    rintro k F H3 G hle3 ⟨z, hz, rfl, rfl, hle4, rfl⟩
    refine codeL.go tab ?_
    (conv => whnf)
    rw [show (((rst m).length + 1 + z : Nat) : Int).tmod 64 = (((rst m).length + 1 + z) % 64 : Nat) from by rw [Int.tmod_eq_emod_of_nonneg (by omega)]; omega]
    refine ⟨by decide, ?_⟩
    (conv => whnf)
    have hpn : padN (rst m).length = (119 - (rst m).length % 64) % 64 := rfl
    refine br.of (fun h1 => ?_) (fun h1 => ?_) <;> (conv => whnf)
    · simp only [bne_iff_ne, ne_eq] at h1
      refine ⟨by decide, .inl ?_⟩
      intro g H4 hle5 hrd
      (conv => whnf)
      refine ⟨_, rfl, hrd, one_int _ _, ?_⟩
      (conv => whnf)
      refine ⟨by show _ * 2 ≤ _; omega, ?_⟩
      (conv => whnf)
      refine ⟨padN (rst m).length - (z + 1), by omega, _, _, [0, 1, 3], ⟨z + 1, by omega, rfl, rfl, hle4.trans hle5, rfl⟩, ?_⟩
      refine ⟨rfl, ⟨rfl, rfl, ?_, trivial⟩, rfl, rfl, trivial⟩
      show SB.row 5 1 ((rst m).length + 1 + z + 1) (bCells (rst m ++ 128 :: List.replicate z 0) ++ [.int .u8 0]) = SB.row 5 1 ((rst m).length + 1 + (z + 1)) (bCells (rst m ++ 128 :: List.replicate (z + 1) 0))
      rw [bCells_snoc _ (0 : UInt8) (x := 0) rfl, List.replicate_succ', List.append_assoc]; rfl
    have hz2 : z = padN (rst m).length := by
      simp only [bne_eq_false_iff_eq] at h1
      omega
    subst hz2
    clear h1 hz
    generalize hT0 : rst m ++ 128 :: List.replicate (padN (rst m).length) 0 = T0
    have hT0l : T0.length = (rst m).length + 1 + padN (rst m).length := by rw [← hT0]; simp; omega
    rw [← hT0l]
    have hTl : tailOf (rst m) m.length = T0 ++ be8 (8 * m.length) := by unfold tailOf; rw [← hT0]; simp
    have hTm := tailOf_mod (rst m) m.length
    rw [hTl] at hTm
    have hb8 : (be8 (8 * m.length)).length = 8 := rfl
    refine WS.loop (fun k F H4 G => ∃ j : Nat, j ≤ 8 ∧ k = 8 - j ∧ F = [(0, .si (.ce (.ptr 0 0))), (3, .si (.ce (.self 2))), (4, pv (.int .i64 (56 - 8 * j)))] ∧ H.Le H4 ∧
        G = [hBox 1 m, hRow m, .row 5 1 (T0.length + j) (bCells (T0 ++ (be8 (8 * m.length)).take j))]) 9 ?_ ?_
    · refine ⟨8, by omega, _, _, [0, 1, 2], ⟨0, by omega, rfl, rfl, hle4, rfl⟩, ?_⟩
      refine ⟨rfl, ⟨rfl, rfl, ?_, trivial⟩, rfl, rfl, rfl, trivial⟩
      rw [List.take_zero, List.append_nil]; rfl
    rintro k F H4 G hle5 ⟨j, hj, rfl, rfl, hle6, rfl⟩
    refine codeL.go tab ?_
    (conv => whnf)
    refine br.of (fun h1 => ?_) (fun h1 => ?_) <;> (conv => whnf)
    · simp only [ge_iff_le, decide_eq_true_eq] at h1
      refine ⟨by omega, ?_⟩
      (conv => whnf)
      refine ⟨by decide, .inl ?_⟩
      intro g H5 hle7 hrd
      (conv => whnf)
      refine ⟨_, rfl, hrd, one_int _ _, ?_⟩
      (conv => whnf)
      refine ⟨by show _ * 2 ≤ _; omega, ?_⟩
      (conv => whnf)
      rw [wrap64 (x := 56 - 8 * (j : Int) - 8) (by omega) (by omega)]
      refine ⟨8 - (j + 1), by omega, _, _, [0, 1, 3], ⟨j + 1, by omega, rfl, rfl, hle6.trans hle7, rfl⟩, ?_⟩
      refine ⟨rfl, ⟨rfl, rfl, ?_, trivial⟩, rfl, rfl, ?_, trivial⟩
      · show SB.row 5 1 (T0.length + j + 1) (bCells (T0 ++ (be8 (8 * m.length)).take j) ++ [.int .u8 _]) = SB.row 5 1 (T0.length + (j + 1)) (bCells (T0 ++ (be8 (8 * m.length)).take (j + 1)))
        rw [take_get (be8_get (8 * m.length) j (by omega)), ← List.append_assoc, ← bCells_snoc _ _ (x := IntKind.u8.wrap ((IntKind.i64.wrap ((m.length : Int) * 8)).fdiv (2 ^ min (Int.toNat (56 - 8 * (j : Int))) IntKind.i64.bits))) ?_]
        · rfl
        · rw [wrap64 (by omega) (by omega), show (m.length : Int) * 8 = ((8 * m.length : Nat) : Int) by omega, show Int.toNat (56 - 8 * (j : Int)) = 56 - 8 * j by omega]
          exact sh8 _ _ _ (by show 56 - 8 * j ≤ 64; omega)
      · show pv _ = pv _
        congr 2; omega
    simp only [ge_iff_le, decide_eq_false_iff_not] at h1
    have hj8 : j = 8 := by omega
    subst hj8
    rw [show T0.length + 8 = (T0 ++ be8 (8 * m.length)).length by rw [List.length_append, hb8], show (be8 (8 * m.length)).take 8 = be8 (8 * m.length) from rfl]
    rw [show sha m = outB (blocks ((T0 ++ be8 (8 * m.length)).length / 64) (hst m) (T0 ++ be8 (8 * m.length))) by rw [← hTl]; exact sha_eq m]
    generalize T0 ++ be8 (8 * m.length) = all at *
    refine WS.loop (fun k F H5 G => ∃ i : Nat, i ≤ all.length / 64 ∧ k = all.length / 64 - i ∧ F = [(3, .si (.ce (.self 2))), (5, .si (.ce (.ptr 3 0)))] ∧ H.Le H5 ∧
        G = [hBox 1 m, hRow m, .row 5 1 (all.drop (64 * i)).length (bCells (all.drop (64 * i))), .box 190 (blocks i (hst m) all).cells]) (all.length / 64 + 1) ?_ ?_
    · refine ⟨all.length / 64, by omega, _, _, [0, 1, 2, 3], ⟨0, by omega, rfl, rfl, hle6, rfl⟩, ?_⟩
      exact ⟨rfl, ⟨rfl, rfl, rfl, rfl, trivial⟩, rfl, rfl, trivial⟩
    rintro k F H5 G hle7 ⟨i, hi, rfl, rfl, hle8, rfl⟩
    have hdl : (all.drop (64 * i)).length = all.length - 64 * i := List.length_drop
    refine codeL.go tab ?_
    (conv => whnf)
    refine br.of (fun h1 => ?_) (fun h1 => ?_) <;> (conv => whnf)
    · simp only [gt_iff_lt, decide_eq_true_eq] at h1
      refine ⟨⟨_, Tryz.func155, rfl, by kernel_rfl⟩, CallS.use (compress (blocks i (hst m) all) (all.drop (64 * i)).length (all.drop (64 * i)) (by omega) rfl H5) [2] rfl rfl ⟨rfl, trivial⟩ ?_⟩
      rintro e H' G' hle9 ⟨rfl, rfl, rfl⟩
      (conv => whnf)
      refine ⟨⟨by omega, by omega⟩, ?_⟩
      (conv => whnf)
      refine ⟨all.length / 64 - (i + 1), by omega, _, _, [0, 1, 4, 3], ⟨i + 1, by omega, rfl, rfl, hle8, rfl⟩, ?_⟩
      refine ⟨rfl, ⟨rfl, rfl, ?_, ?_, trivial⟩, rfl, rfl, trivial⟩
      · exact row_cut all i
      · rw [blocks_succ]; rfl
    simp only [gt_iff_lt, decide_eq_false_iff_not] at h1
    have hi2 : i = all.length / 64 := by omega
    subst hi2
    generalize blocks (all.length / 64) (hst m) all = S at *
    refine WS.nilRow 6 5 1 rfl ?_
    (conv => whnf)
    refine WS.loop (fun k F H6 G => ∃ j : Nat, j ≤ 8 ∧ k = 8 - j ∧ F = [(6, .si (.ce (.self 2))), (51, .si (.ag S.cells)), (52, pv (.int .i64 j))] ∧ H.Le H6 ∧
        G = [hBox 1 m, hRow m, .row 5 1 (4 * j) (bCells (outT S j))]) 9 ?_ ?_
    · refine ⟨8, by decide, _, _, [0, 1, 4], ⟨0, by decide, rfl, rfl, hle8, rfl⟩, ?_⟩
      exact ⟨rfl, ⟨rfl, rfl, rfl, trivial⟩, rfl, rfl, rfl, trivial⟩
    clear hTl hTm h1 hdl hi hr
    rintro k F H6 G hle9 ⟨j, hj, rfl, rfl, hle10, rfl⟩
    refine codeL.go tab ?_
    have hj9 : j = 0 ∨ j = 1 ∨ j = 2 ∨ j = 3 ∨ j = 4 ∨ j = 5 ∨ j = 6 ∨ j = 7 ∨ j = 8 := by omega
    rcases hj9 with rfl | rfl | rfl | rfl | rfl | rfl | rfl | rfl | rfl
    all_goals (conv => whnf)
    all_goals first
      | (show SE.ret _ = _ ∧ _ = _
         exact ⟨rfl, by rw [← outT_all]⟩)
      | (refine ⟨by decide, _, rfl, ?_⟩
         (conv => whnf)
         iterate 3 (refine ⟨by decide, ?_⟩; (conv => whnf))
         refine ⟨by decide, .inl ?_⟩
         intro g H7 hle11 hrd
         (conv => whnf)
         refine ⟨_, rfl, hrd, ones4 _ _ _ _ _, ?_⟩
         (conv => whnf)
         refine ⟨by decide, ?_⟩
         (conv => whnf)
         first | (refine ⟨7, by decide, _, _, [0, 1, 3], ⟨1, by decide, rfl, rfl, hle10.trans hle11, rfl⟩, ?_⟩; refine ⟨rfl, ⟨rfl, rfl, ?_, trivial⟩, rfl, rfl, rfl, trivial⟩) | (refine ⟨6, by decide, _, _, [0, 1, 3], ⟨2, by decide, rfl, rfl, hle10.trans hle11, rfl⟩, ?_⟩; refine ⟨rfl, ⟨rfl, rfl, ?_, trivial⟩, rfl, rfl, rfl, trivial⟩) | (refine ⟨5, by decide, _, _, [0, 1, 3], ⟨3, by decide, rfl, rfl, hle10.trans hle11, rfl⟩, ?_⟩; refine ⟨rfl, ⟨rfl, rfl, ?_, trivial⟩, rfl, rfl, rfl, trivial⟩) | (refine ⟨4, by decide, _, _, [0, 1, 3], ⟨4, by decide, rfl, rfl, hle10.trans hle11, rfl⟩, ?_⟩; refine ⟨rfl, ⟨rfl, rfl, ?_, trivial⟩, rfl, rfl, rfl, trivial⟩) | (refine ⟨3, by decide, _, _, [0, 1, 3], ⟨5, by decide, rfl, rfl, hle10.trans hle11, rfl⟩, ?_⟩; refine ⟨rfl, ⟨rfl, rfl, ?_, trivial⟩, rfl, rfl, rfl, trivial⟩) | (refine ⟨2, by decide, _, _, [0, 1, 3], ⟨6, by decide, rfl, rfl, hle10.trans hle11, rfl⟩, ?_⟩; refine ⟨rfl, ⟨rfl, rfl, ?_, trivial⟩, rfl, rfl, rfl, trivial⟩) | (refine ⟨1, by decide, _, _, [0, 1, 3], ⟨7, by decide, rfl, rfl, hle10.trans hle11, rfl⟩, ?_⟩; refine ⟨rfl, ⟨rfl, rfl, ?_, trivial⟩, rfl, rfl, rfl, trivial⟩) | (refine ⟨0, by decide, _, _, [0, 1, 3], ⟨8, by decide, rfl, rfl, hle10.trans hle11, rfl⟩, ?_⟩; refine ⟨rfl, ⟨rfl, rfl, ?_, trivial⟩, rfl, rfl, rfl, trivial⟩)
         exact row_out _ _ _ _)
end Go.Kx.Sha
namespace Go.Kx.Sha
open Go.Proofs Go.Kx
set_option maxRecDepth 20000

def PartAt (H : Hp) (v : Value) (p : List UInt8) : Prop := ∃ A n cap, v = .slice A n cap ∧ BytesAt H A n p
theorem PartAt.mono {H H' : Hp} (h : H.Le H') {v : Value} {p : List UInt8} (hp : PartAt H v p) : PartAt H' v p := let ⟨A, n, cap, e, hb⟩ := hp; ⟨A, n, cap, e, hb.mono h⟩
def PartsAt (H : Hp) (A : Option Addr) (n : Nat) (ps : List (List UInt8)) : Prop := ∃ vs : List Value, n = vs.length ∧ RdN H A 0 vs ∧ All2 (PartAt H) vs ps
theorem PartsAt.mono {H H' : Hp} (h : H.Le H') {A : Option Addr} {n : Nat} {ps : List (List UInt8)} (hp : PartsAt H A n ps) : PartsAt H' A n ps :=
 let ⟨vs, h1, h2, h3⟩ := hp; ⟨vs, h1, h2.mono h, h3.mono fun _ _ => PartAt.mono h⟩
theorem PartsAt.length {H : Hp} {A : Option Addr} {n : Nat} {ps : List (List UInt8)} (hp : PartsAt H A n ps) : n = ps.length := by
 obtain ⟨vs, h1, _, h3⟩ := hp; rw [h1, h3.length]
theorem PartsAt.addr {H : Hp} {A : Option Addr} {n : Nat} {ps : List (List UInt8)} (hp : PartsAt H A n ps) : ∃ b o, A = some ⟨b, o, none⟩ := by
 obtain ⟨vs, _, ⟨b, o, h1, _⟩, _⟩ := hp; exact ⟨b, o, h1⟩
theorem PartsAt.get {H : Hp} {A : Option Addr} {n : Nat} {ps : List (List UInt8)} (hp : PartsAt H A n ps) {i : Nat} {p : List UInt8} (hi : ps[i]? = some p) {off : Nat} (ho : off = i) : ∃ B m cap, RdC H A off (.slice B m cap) ∧ BytesAt H B m p := by
 obtain ⟨vs, _, ⟨b, o, h1, h2⟩, h3⟩ := hp
 obtain ⟨v, hv, B, m, cap, rfl, hb⟩ := h3.get' hi
 refine ⟨B, m, cap, ⟨b, o, h1, ?_⟩, hb⟩
 subst ho
 exact h2 _ _ hv
def upto (ps : List (List UInt8)) (i : Nat) : List UInt8 := (ps.take i).flatten
theorem upto_succ {ps : List (List UInt8)} {i : Nat} {p : List UInt8} (h : ps[i]? = some p) : upto ps (i + 1) = upto ps i ++ p := by
 obtain ⟨hi, rfl⟩ := List.getElem?_eq_some_iff.1 h
 unfold upto
 rw [List.take_succ_eq_append_getElem hi, List.flatten_append]; simp
theorem upto_le (ps : List (List UInt8)) (i : Nat) : (upto ps i).length ≤ ps.flatten.length := by
 have : ps.flatten = upto ps i ++ (ps.drop i).flatten := by unfold upto; rw [← List.flatten_append, List.take_append_drop]
 rw [this, List.length_append]; omega
theorem upto_all {ps : List (List UInt8)} {i : Nat} (h : ps.length ≤ i) : upto ps i = ps.flatten := by unfold upto; rw [List.take_of_length_le h]
theorem sumAll0 (ps : List (List UInt8)) (A : Option Addr) (n cap : Nat) (H : Hp) (hp : PartsAt H A n ps) (hl : ps.flatten.length ≤ 1000000000) (hn : n ≤ 1000000) :
  CallO Tryz.prog 119 [pv (.slice A n cap)] H [] fun e _ G' => e = .ret (.si (.ce (.self 0))) ∧ G' = [.row 5 1 32 (bCells (sha ps.flatten))] := by
 refine CallO.sub (K0 := fun e _ G' => e = .ret (.si (.ce (.self 2))) ∧ G' = [hBox 1 ps.flatten, hRow ps.flatten, .row 5 1 32 (bCells (sha ps.flatten))]) ?_ ?_
 ·refine CallO.of_body tab Tryz.func119 rfl (nt := Tryz.f119.ntmps) rfl (by kernel_rfl) ?_
  (conv => whnf)
  refine ⟨⟨_, Tryz.func116, rfl, by kernel_rfl⟩, CallS.use (new_ H) [] rfl rfl trivial ?_⟩
  rintro e H' G' hle ⟨rfl, rfl, rfl⟩
  (conv => whnf)
  have hpl := hp.length
  refine WS.loop (fun k F H2 G => ∃ i : Nat, i ≤ n ∧ k = n - i ∧ F = [(3, .si (.ce (.ptr 0 0))), (7, pv (.slice A n cap)), (8, pv (.int .i64 n)), (9, pv (.int .i64 i))] ∧ H'.Le H2 ∧ G = [hBox 1 (upto ps i), hRow (upto ps i)]) (n + 1) ?_ ?_
  ·refine ⟨n, by omega, _, _, [0, 1], ⟨0, by omega, rfl, rfl, .refl _, rfl⟩, ?_⟩
   exact ⟨rfl, ⟨rfl, rfl, trivial⟩, rfl, rfl, rfl, rfl, trivial⟩
  rintro k F H2 G hle2 ⟨i, hi, rfl, rfl, hle3, rfl⟩
  refine codeL.go tab ?_
  (conv => whnf)
  refine br.of (fun h1 => ?_) (fun h1 => ?_) <;> (conv => whnf)
  ·simp only [decide_eq_true_eq] at h1
   have hx : ps[i]? = some ps[i] := List.getElem?_eq_getElem (by omega)
   obtain ⟨B, m, c, hrd, hb⟩ := (hp.mono hle3).get hx rfl
   have hu := upto_succ hx
   have hul := upto_le ps (i + 1)
   rw [hu, List.length_append] at hul
   refine ⟨⟨by omega, h1⟩, hp.addr, ?_⟩
   (conv => whnf)
   refine ⟨.slice B m c, by simpa using hrd, ?_⟩
   (conv => whnf)
   refine ⟨⟨_, Tryz.func117, rfl, by kernel_rfl⟩, CallS.use (write (upto ps i) ps[i] B m c H2 hb (by rw [hb.1]; exact Nat.le_trans hul hl)) [0, 1] rfl rfl ⟨rfl, rfl, trivial⟩ ?_⟩
   rintro e H3 G' hle4 ⟨rfl, rfl, rfl⟩
   (conv => whnf)
   rw [wrap64 (x := (i : Int) + 1) (by omega) (by omega)]
   refine ⟨n - (i + 1), by omega, _, _, [0, 2], ⟨i + 1, by omega, rfl, rfl, hle3, rfl⟩, ?_⟩
   refine ⟨rfl, ⟨?_, ?_, trivial⟩, rfl, rfl, rfl, rfl, trivial⟩
   ·rw [hu]; rfl
   ·rw [hu]; rfl
  ·simp only [decide_eq_false_iff_not] at h1
   rw [upto_all (ps := ps) (i := i) (by omega)]
   refine ⟨⟨_, Tryz.func120, rfl, by kernel_rfl⟩, CallS.use (sum ps.flatten H2 hl) [0, 1] rfl rfl ⟨rfl, rfl, trivial⟩ ?_⟩
   rintro e H3 G' hle4 ⟨rfl, rfl⟩
   (conv => whnf)
   exact ⟨rfl, rfl⟩
 ·rintro e H' G' hle ⟨rfl, rfl⟩
  exact ⟨.si (.ce (.self 0)), [.row 5 1 32 (bCells (sha ps.flatten))], [2], rfl, ⟨rfl, trivial⟩, rfl, rfl, rfl⟩
theorem sumAll (ps : List (List UInt8)) (A : Option Addr) (n cap : Nat) (H : Hp) (hp : PartsAt H A n ps) (hl : ps.flatten.length ≤ 1000000000) (hn : n ≤ 1000000) :
  CallO Tryz.prog 119 [pv (.slice A n cap)] H [] fun e H' G' => RetB (sha ps.flatten) e H' ∧ G' = [] := CallO.bytes rfl (sumAll0 ps A n cap H hp hl hn)
end Go.Kx.Sha
namespace Go.Kx.Sha
open Go.Proofs Go.Kx
set_option maxRecDepth 20000
namespace MacB
def T : Tab := [(55, { k := TK.slice 5, agg := false, size := 1, bytes := 24, zero := [Z.sl] }), (155, { k := TK.slice 55, agg := false, size := 1, bytes := 24, zero := [Z.sl] }), (156, { k := TK.ptr 192, agg := false, size := 1, bytes := 8, zero := [Z.p] }), (5, { k := TK.int IntKind.u8, agg := false, size := 1, bytes := 1, zero := [Z.i IntKind.u8] }), (3, { k := TK.int IntKind.i64, agg := false, size := 1, bytes := 8, zero := [Z.i IntKind.i64] }), (4, { k := TK.bool, agg := false, size := 1, bytes := 1, zero := [Z.b] }), (192, { k := TK.st [(0, 190, 8), (8, 55, 1), (9, 3, 1)], agg := true, size := 10, bytes := 64, zero := [Z.i IntKind.u32, Z.i IntKind.u32, Z.i IntKind.u32, Z.i IntKind.u32, Z.i IntKind.u32, Z.i IntKind.u32, Z.i IntKind.u32, Z.i IntKind.u32, Z.sl, Z.i IntKind.i64] }), (190, { k := TK.ar 8 189 1, agg := true, size := 8, bytes := 32, zero := [Z.i IntKind.u32, Z.i IntKind.u32, Z.i IntKind.u32, Z.i IntKind.u32, Z.i IntKind.u32, Z.i IntKind.u32, Z.i IntKind.u32, Z.i IntKind.u32] }), (189, { k := TK.int IntKind.u32, agg := false, size := 1, bytes := 4, zero := [Z.i IntKind.u32] })]
set_option maxRecDepth 100000 in
theorem tab : TabOk Tryz.prog T := tabOk_mk (ts := [55, 155, 156, 5, 3, 4, 192, 190, 189]) (by kernel_rfl)
end MacB

theorem sumF (m : List UInt8) (H : Hp) (hl : m.length ≤ 1000000000) :
  CallO Tryz.prog 120 [.si (.ce (.ptr 0 0))] H [hBox 1 m, hRow m] fun e H' G' => RetB (sha m) e H' ∧ G' = [hBox 1 m, hRow m] := by
 refine CallO.sub (CallO.frz (K := fun e H' G' => (∃ A n cap, e = .ret (pv (.slice A n cap)) ∧ BytesAt H' A n (sha m)) ∧ G' = [hBox 1 m, hRow m, .dead]) (sum m H hl) ?_) ?_
 ·rintro e H' G' hle ⟨rfl, rfl⟩
  refine ⟨2, 5, 1, 32, bCells (sha m), rfl, fun h0 => (nomatch h0), fun x H2 hle2 hfr => ?_⟩
  obtain ⟨A, cap, rfl, hb⟩ := BytesAt.of_frozen (bs := sha m) rfl hfr
  exact ⟨⟨A, 32, cap, rfl, hb⟩, rfl⟩
 ·rintro e H' G' hle ⟨⟨A, n, cap, rfl, hb⟩, rfl⟩
  exact ⟨_, [hBox 1 m, hRow m], [0, 1], rfl, ⟨rfl, rfl, trivial⟩, rfl, ⟨A, n, cap, rfl, hb⟩, rfl⟩
def keyOf (key : List UInt8) : List UInt8 := if 64 < key.length then sha key else key
theorem keyOf_length (key : List UInt8) : (keyOf key).length ≤ 64 := by
 unfold keyOf; split
 ·rw [sha_length]; decide
 ·omega
def padBase (key : List UInt8) : List UInt8 := keyOf key ++ List.replicate (64 - (keyOf key).length) 0
theorem padBase_length (key : List UInt8) : (padBase key).length = 64 := by
 have := keyOf_length key
 unfold padBase; simp; omega
def padB (key : List UInt8) (x : UInt8) : List UInt8 := (padBase key).map (· ^^^ x)
def xorUp (base : List UInt8) (x : UInt8) (i : Nat) : List UInt8 := (base.take i).map (· ^^^ x) ++ base.drop i
theorem xor8 (a b : UInt8) : IntKind.u8.wrap ((BitVec.ofInt IntKind.u8.bits (a.toNat : Int) ^^^ BitVec.ofInt IntKind.u8.bits (b.toNat : Int)).toNat : Int) = ((a ^^^ b).toNat : Int) := by
 have h : ∀ c : UInt8, BitVec.ofInt IntKind.u8.bits (c.toNat : Int) = c.toBitVec := fun c => by
  show BitVec.ofInt 8 (c.toNat : Int) = c.toBitVec
  simp
 rw [h, h, wrap8]
 have := (a ^^^ b).toNat_lt
 show ((a ^^^ b).toNat : Int) % 256 = _
 omega
theorem splice_mid {α : Type} (P : List α) (c v : α) (Q : List α) {off : Nat} (ho : off = P.length) : splice (P ++ c :: Q) off [v] = P ++ v :: Q := by
 subst ho
 unfold splice
 rw [List.take_left, List.append_assoc]
 show P ++ ([v] ++ List.drop (P.length + 1) (P ++ c :: Q)) = _
 rw [List.drop_append]
 simp
theorem xorUp_mid {base : List UInt8} {x : UInt8} {i : Nat} {b : UInt8} (h : base[i]? = some b) : xorUp base x i = (base.take i).map (· ^^^ x) ++ b :: base.drop (i + 1) := by
 obtain ⟨hi, rfl⟩ := List.getElem?_eq_some_iff.1 h
 unfold xorUp
 rw [List.drop_eq_getElem_cons hi]
theorem xorUp_get {base : List UInt8} {x : UInt8} {i : Nat} {b : UInt8} (h : base[i]? = some b) {off : Nat} (ho : off = i) : (bCells (xorUp base x i))[off]? = some (.int .u8 b.toNat) := by
 subst ho
 have hi := (List.getElem?_eq_some_iff.1 h).1
 rw [xorUp_mid h]
 unfold bCells
 rw [List.getElem?_map, List.getElem?_append_right (by simp; omega)]
 simp [Nat.min_eq_left (Nat.le_of_lt hi)]
theorem xorUp_step {base : List UInt8} {x : UInt8} {i : Nat} {b : UInt8} (h : base[i]? = some b) {off : Nat} (ho : off = i) : splice (bCells (xorUp base x i)) off [.int .u8 ((b ^^^ x).toNat : Int)] = bCells (xorUp base x (i + 1)) := by
 subst ho
 have hi := (List.getElem?_eq_some_iff.1 h).1
 have e2 : xorUp base x (off + 1) = (base.take off).map (· ^^^ x) ++ (b ^^^ x) :: base.drop (off + 1) := by
  obtain ⟨hi, rfl⟩ := List.getElem?_eq_some_iff.1 h
  unfold xorUp
  rw [List.take_succ_eq_append_getElem hi, List.map_append, List.append_assoc]; rfl
 rw [xorUp_mid h, e2]
 unfold bCells
 rw [List.map_append, List.map_append, List.map_cons, List.map_cons]
 exact splice_mid _ _ _ _ (by simp [Nat.min_eq_left (Nat.le_of_lt hi)])
theorem xorUp_zero (base : List UInt8) (x : UInt8) : xorUp base x 0 = base := rfl
theorem xorUp_all {base : List UInt8} {x : UInt8} {i : Nat} (h : base.length ≤ i) : xorUp base x i = base.map (· ^^^ x) := by
 unfold xorUp; rw [List.take_of_length_le h, List.drop_of_length_le h, List.append_nil]
theorem xorUp_length (base : List UInt8) (x : UInt8) (i : Nat) : (xorUp base x i).length = base.length := by
 unfold xorUp; simp; omega
theorem zeros64 : (List.replicate (Int.toNat 64) (List.map Z.val [Z.i IntKind.u8])).flatten = bCells (List.replicate 64 0) := by kernel_rfl
theorem splice_zeros (k : List UInt8) : splice ((List.replicate (Int.toNat 64) (List.map Z.val [Z.i IntKind.u8])).flatten) 0 (bCells k) = bCells (k ++ List.replicate (64 - k.length) 0) := by
 rw [zeros64]
 unfold splice bCells
 rw [List.take_zero, List.nil_append, List.map_append, Nat.zero_add, ← List.map_drop, List.drop_replicate, List.length_map]
theorem pad0 (key : List UInt8) (x : UInt8) (A : Option Addr) (n cap : Nat) (H : Hp) (hk : BytesAt H A n key) (hn : n ≤ 1000000) :
  CallO Tryz.prog 118 [pv (.slice A n cap), pv (.int .u8 x.toNat)] H [] fun e _ G' => e = .ret (.si (.ce (.self 0))) ∧ G' = [.row 5 1 64 (bCells (padB key x))] := by
 refine CallO.of_bodyW MacB.tab Tryz.func118 rfl (nt := Tryz.f118.ntmps) rfl (by kernel_rfl) ?_
 refine W.seqS (codeX_ok MacB.tab _ ?_)
 (conv => whnf)
 refine WS.seqTo MacB.tab (fun F H2 G => ∃ B m c, F = [(0, pv (.slice B m c)), (1, pv (.int .u8 x.toNat))] ∧ BytesAt H2 B m (keyOf key) ∧ G = []) ?_ ?_
 ·(conv => whnf)
  refine br.of (fun h1 => ?_) (fun h1 => ?_) <;> (conv => whnf)
  ·simp only [gt_iff_lt, decide_eq_true_eq] at h1
   refine ⟨by decide, .inl ?_⟩
   intro g H2 hle hrd
   (conv => whnf)
   have hps : PartsAt H2 (some ⟨g, 0, none⟩) 1 [key] := ⟨_, rfl, hrd, .cons ⟨A, n, cap, rfl, hk.mono hle⟩ .nil⟩
   have hkl := hk.1
   refine ⟨⟨_, Tryz.func119, rfl, by kernel_rfl⟩, CallS.use (sumAll [key] _ 1 1 H2 hps (by simp; omega) (by decide)) [] rfl rfl trivial ?_⟩
   rintro e H3 G' hle2 ⟨⟨B, m, c, rfl, hb⟩, rfl⟩
   (conv => whnf)
   refine ⟨_, _, [], ⟨B, m, c, rfl, ?_, rfl⟩, rfl, trivial, rfl, rfl, trivial⟩
   have : [key].flatten = key := by simp
   rw [this] at hb
   unfold keyOf
   rw [if_pos (by omega)]
   exact hb
  ·simp only [gt_iff_lt, decide_eq_false_iff_not] at h1
   refine ⟨_, _, [], ⟨A, n, cap, rfl, ?_, rfl⟩, rfl, trivial, rfl, rfl, trivial⟩
   unfold keyOf
   rw [if_neg (by have := hk.1; omega)]
   exact hk
 ·rintro F H2 G hle ⟨B, m, c, rfl, hb, rfl⟩
  refine codeL.go MacB.tab ?_
  (conv => whnf)
  refine ⟨by decide, ?_⟩
  (conv => whnf)
  have hkl := keyOf_length key
  have hbl := padBase_length key
  obtain ⟨hm, hB, hrd⟩ := hb
  have key2 : ∀ ys, (B = none → ys = []) → (∀ a, B = some a → ys = bCells (keyOf key)) → SB.row 5 1 64 (splice ((List.replicate (Int.toNat 64) (List.map Z.val [Z.i IntKind.u8])).flatten) 0 ys) = SB.row 5 1 64 (bCells (xorUp (padBase key) x 0)) := by
   intro ys h1 h2
   rw [xorUp_zero]
   unfold padBase
   rw [← splice_zeros (keyOf key)]
   cases B with
   | none => rw [h1 rfl, hB rfl]; rfl
   | some a => rw [h2 a rfl]
  cases B with
  | none =>
   have hk0 : m = 0 := by rw [hm, hB rfl]; rfl
   subst hk0
   (conv => whnf)
   refine ⟨⟨by decide, by decide⟩, ?_⟩
   (conv => whnf)
   refine WS.loop (fun k F H3 G => ∃ i : Nat, i ≤ 64 ∧ k = 64 - i ∧ F = [(1, pv (.int .u8 x.toNat)), (5, .si (.ce (.self 0))), (18, pv (.int .i64 64)), (19, pv (.int .i64 i))] ∧ H2.Le H3 ∧ G = [.row 5 1 64 (bCells (xorUp (padBase key) x i))]) 65 ?_ ?_
   ·refine ⟨64, by omega, _, _, [0], ⟨0, by omega, rfl, rfl, .refl _, rfl⟩, ?_⟩
    exact ⟨rfl, ⟨key2 [] (fun _ => rfl) (fun a e => (nomatch e)), trivial⟩, rfl, rfl, rfl, rfl, trivial⟩
   rintro k F H3 G hle2 ⟨i, hi, rfl, rfl, hle3, rfl⟩
   refine codeL.go MacB.tab ?_
   (conv => whnf)
   refine br.of (fun h1 => ?_) (fun h1 => ?_) <;> (conv => whnf)
   ·simp only [decide_eq_true_eq] at h1
    have hi2 : i < 64 := by omega
    have hx : (padBase key)[i]? = some ((padBase key)[i]'(by omega)) := List.getElem?_eq_getElem (by omega)
    generalize (padBase key)[i]'(by omega) = b at hx
    refine ⟨⟨by omega, by omega⟩, ?_⟩
    (conv => whnf)
    refine ⟨_, xorUp_get hx (by simp), ?_⟩
    (conv => whnf)
    refine ⟨⟨by omega, by omega⟩, ?_⟩
    (conv => whnf)
    rw [xor8]
    refine ⟨by rw [bCells_length, xorUp_length, hbl]; show (i : Int).toNat * 1 + 1 ≤ 64; omega, ?_⟩
    (conv => whnf)
    rw [wrap64 (x := (i : Int) + 1) (by omega) (by omega)]
    refine ⟨64 - (i + 1), by omega, _, _, [0], ⟨i + 1, by omega, rfl, rfl, hle3, rfl⟩, ?_⟩
    refine ⟨rfl, ⟨?_, trivial⟩, rfl, rfl, rfl, rfl, trivial⟩
    rw [xorUp_step hx (by simp)]; rfl
   ·simp only [decide_eq_false_iff_not] at h1
    have hi2 : i = 64 := by omega
    subst hi2
    rw [xorUp_all (by omega)]
    exact ⟨rfl, rfl⟩
  | some a =>
   refine ⟨bCells (keyOf key), by rw [bCells_length, hm]; exact (Nat.mul_one _).symm, hrd a rfl, bCells_one _, ?_⟩
   (conv => whnf)
   refine ⟨⟨by rw [hm]; exact hkl, by decide⟩, ?_⟩
   (conv => whnf)
   refine WS.loop (fun k F H3 G => ∃ i : Nat, i ≤ 64 ∧ k = 64 - i ∧ F = [(1, pv (.int .u8 x.toNat)), (5, .si (.ce (.self 0))), (18, pv (.int .i64 64)), (19, pv (.int .i64 i))] ∧ H2.Le H3 ∧ G = [.row 5 1 64 (bCells (xorUp (padBase key) x i))]) 65 ?_ ?_
   ·refine ⟨64, by omega, _, _, [0], ⟨0, by omega, rfl, rfl, .refl _, rfl⟩, ?_⟩
    exact ⟨rfl, ⟨key2 _ (fun e => (nomatch e)) (fun a e => rfl), trivial⟩, rfl, rfl, rfl, rfl, trivial⟩
   rintro k F H3 G hle2 ⟨i, hi, rfl, rfl, hle3, rfl⟩
   refine codeL.go MacB.tab ?_
   (conv => whnf)
   refine br.of (fun h1 => ?_) (fun h1 => ?_) <;> (conv => whnf)
   ·simp only [decide_eq_true_eq] at h1
    have hi2 : i < 64 := by omega
    have hx : (padBase key)[i]? = some ((padBase key)[i]'(by omega)) := List.getElem?_eq_getElem (by omega)
    generalize (padBase key)[i]'(by omega) = b at hx
    refine ⟨⟨by omega, by omega⟩, ?_⟩
    (conv => whnf)
    refine ⟨_, xorUp_get hx (by simp), ?_⟩
    (conv => whnf)
    refine ⟨⟨by omega, by omega⟩, ?_⟩
    (conv => whnf)
    rw [xor8]
    refine ⟨by rw [bCells_length, xorUp_length, hbl]; show (i : Int).toNat * 1 + 1 ≤ 64; omega, ?_⟩
    (conv => whnf)
    rw [wrap64 (x := (i : Int) + 1) (by omega) (by omega)]
    refine ⟨64 - (i + 1), by omega, _, _, [0], ⟨i + 1, by omega, rfl, rfl, hle3, rfl⟩, ?_⟩
    refine ⟨rfl, ⟨?_, trivial⟩, rfl, rfl, rfl, rfl, trivial⟩
    rw [xorUp_step hx (by simp)]; rfl
   ·simp only [decide_eq_false_iff_not] at h1
    have hi2 : i = 64 := by omega
    subst hi2
    rw [xorUp_all (by omega)]
    exact ⟨rfl, rfl⟩
end Go.Kx.Sha
namespace Go.Kx.Sha
open Go.Proofs Go.Kx
set_option maxRecDepth 20000
open MacB in
theorem padF (key : List UInt8) (x : UInt8) (A : Option Addr) (n cap : Nat) (H : Hp) (hk : BytesAt H A n key) (hn : n ≤ 1000000) :
  CallO Tryz.prog 118 [pv (.slice A n cap), pv (.int .u8 x.toNat)] H [] fun e H' G' => RetB (padB key x) e H' ∧ G' = [] :=
 CallO.bytes (by unfold padB; rw [List.length_map, padBase_length]) (pad0 key x A n cap H hk hn)
theorem padB_length (key : List UInt8) (x : UInt8) : (padB key x).length = 64 := by unfold padB; rw [List.length_map, padBase_length]
def hmac (key msg : List UInt8) : List UInt8 := sha (padB key 0x5c ++ sha (padB key 0x36 ++ msg))
theorem code (key : List UInt8) (ps : List (List UInt8)) (A B : Option Addr) (n cap m c : Nat) (H : Hp) (hk : BytesAt H A n key) (hp : PartsAt H B m ps) (hn : n ≤ 1000000) (hm : m ≤ 1000000) (hl : ps.flatten.length ≤ 100000000) :
  CallO Tryz.prog 85 [pv (.slice A n cap), pv (.slice B m c)] H [] fun e H' G' => RetB (hmac key ps.flatten) e H' ∧ G' = [] := by
 refine CallO.of_body MacB.tab Tryz.func85 rfl (nt := Tryz.f85.ntmps) rfl (by kernel_rfl) ?_
 (conv => whnf)
 refine ⟨⟨_, Tryz.func116, rfl, by kernel_rfl⟩, CallS.use (new_ H) [] rfl rfl trivial ?_⟩
 rintro e H' G' hle ⟨rfl, rfl, rfl⟩
 (conv => whnf)
 refine ⟨⟨_, Tryz.func118, rfl, by kernel_rfl⟩, CallS.use (padF key 0x36 A n cap H' hk hn) [] rfl rfl trivial ?_⟩
 rintro e H2 G' hle2 ⟨⟨A2, n2, c2, rfl, hb2⟩, rfl⟩
 (conv => whnf)
 refine ⟨⟨_, Tryz.func117, rfl, by kernel_rfl⟩, CallS.use (write [] (padB key 0x36) A2 n2 c2 H2 hb2 (by rw [hb2.1, padB_length]; decide)) [0, 1] rfl rfl ⟨rfl, rfl, trivial⟩ ?_⟩
 rintro e H3 G' hle3 ⟨rfl, rfl, rfl⟩
 (conv => whnf)
 rw [List.nil_append]
 have hpl := hp.length
 have hpd := padB_length key 0x36
 refine WS.loop (fun k F H4 G => ∃ i : Nat, i ≤ m ∧ k = m - i ∧ F = [(0, pv (.slice A n cap)), (5, .si (.ce (.ptr 0 0))), (13, pv (.slice B m c)), (14, pv (.int .i64 m)), (15, pv (.int .i64 i))] ∧ H'.Le H4 ∧ G = [hBox 1 (padB key 0x36 ++ upto ps i), hRow (padB key 0x36 ++ upto ps i)]) (m + 1) ?_ ?_
 ·refine ⟨m, by omega, _, _, [0, 2], ⟨0, by omega, rfl, rfl, hle2, rfl⟩, ?_⟩
  exact ⟨rfl, ⟨by show _ = hBox 2 _; rw [show upto ps 0 = [] from rfl, List.append_nil]; rfl, by rw [show upto ps 0 = [] from rfl, List.append_nil]; rfl, trivial⟩, rfl, rfl, rfl, rfl, rfl, trivial⟩
 rintro k F H4 G hle4 ⟨i, hi, rfl, rfl, hle5, rfl⟩
 refine codeL.go MacB.tab ?_
 (conv => whnf)
 refine br.of (fun h1 => ?_) (fun h1 => ?_) <;> (conv => whnf)
 ·simp only [decide_eq_true_eq] at h1
  have hx : ps[i]? = some ps[i] := List.getElem?_eq_getElem (by omega)
  obtain ⟨C, q, r, hrd, hb⟩ := (hp.mono hle5).get hx rfl
  have hu := upto_succ hx
  have hul := upto_le ps (i + 1)
  rw [hu, List.length_append] at hul
  refine ⟨⟨by omega, h1⟩, hp.addr, ?_⟩
  (conv => whnf)
  refine ⟨.slice C q r, by simpa using hrd, ?_⟩
  (conv => whnf)
  refine ⟨⟨_, Tryz.func117, rfl, by kernel_rfl⟩, CallS.use (write (padB key 0x36 ++ upto ps i) ps[i] C q r H4 hb (by rw [hb.1, List.length_append, hpd]; omega)) [0, 1] rfl rfl ⟨rfl, rfl, trivial⟩ ?_⟩
  rintro e H5 G' hle6 ⟨rfl, rfl, rfl⟩
  (conv => whnf)
  rw [wrap64 (x := (i : Int) + 1) (by omega) (by omega)]
  refine ⟨m - (i + 1), by omega, _, _, [0, 2], ⟨i + 1, by omega, rfl, rfl, hle5, rfl⟩, ?_⟩
  refine ⟨rfl, ⟨?_, ?_, trivial⟩, rfl, rfl, rfl, rfl, rfl, trivial⟩
  ·rw [hu, ← List.append_assoc]; rfl
  ·rw [hu, ← List.append_assoc]; rfl
 ·simp only [decide_eq_false_iff_not] at h1
  rw [upto_all (ps := ps) (i := i) (by omega)]
  refine ⟨⟨_, Tryz.func118, rfl, by kernel_rfl⟩, CallS.use (padF key 0x5c A n cap H4 (hk.mono hle5) hn) [] rfl rfl trivial ?_⟩
  rintro e H5 G' hle6 ⟨⟨A3, n3, c3, rfl, hb3⟩, rfl⟩
  (conv => whnf)
  refine ⟨⟨_, Tryz.func120, rfl, by kernel_rfl⟩, CallS.use (sumF (padB key 0x36 ++ ps.flatten) H5 (by rw [List.length_append, hpd]; omega)) [0, 1] rfl rfl ⟨rfl, rfl, trivial⟩ ?_⟩
  rintro e H6 G' hle7 ⟨⟨A4, n4, c4, rfl, hb4⟩, rfl⟩
  (conv => whnf)
  refine ⟨by decide, .inl ?_⟩
  intro g H7 hle8 hrd
  (conv => whnf)
  have hps : PartsAt H7 (some ⟨g, 0, none⟩) 2 [padB key 0x5c, sha (padB key 0x36 ++ ps.flatten)] := ⟨_, rfl, hrd, .cons ⟨A3, n3, c3, rfl, hb3.mono (hle7.trans hle8)⟩ (.cons ⟨A4, n4, c4, rfl, hb4.mono hle8⟩ .nil)⟩
  refine ⟨⟨_, Tryz.func119, rfl, by kernel_rfl⟩, CallS.use (sumAll _ _ 2 2 H7 hps (by simp [padB_length, sha_length]) (by decide)) [] rfl rfl trivial ?_⟩
  rintro e H8 G' hle9 ⟨⟨A5, n5, c5, rfl, hb5⟩, rfl⟩
  (conv => whnf)
  have e0 : [padB key 0x5c, sha (padB key 0x36 ++ ps.flatten)].flatten = padB key 0x5c ++ sha (padB key 0x36 ++ ps.flatten) := by simp
  rw [e0] at hb5
  exact ⟨⟨A5, n5, c5, rfl, hb5⟩, rfl⟩
end Go.Kx.Sha
namespace Go.Kx.Jw
open Go.Proofs Go.Kx Go.RowKit Go.Kx.Js Go.Kx.Pr Go.Kx.Rt Go.Kx.Ob Go.Kx.Wo Go.Kx.Ro Go.Kx.Pa Go.Kx.En Go.Kx.Cl Go.Kx.Sha
set_option maxRecDepth 20000
set_option linter.unusedSimpArgs false
abbrev sAlg := (⟨#[97, 108, 103]⟩ : ByteArray)
abbrev sKid := (⟨#[107, 105, 100]⟩ : ByteArray)
abbrev sTyp := (⟨#[116, 121, 112]⟩ : ByteArray)
abbrev sCrit := (⟨#[99, 114, 105, 116]⟩ : ByteArray)
abbrev sHs := (⟨#[72, 83, 50, 53, 54]⟩ : ByteArray)
def headJ (kid typ : ByteArray) : J := objJ [(sAlg, strJ sHs), (sKid, strJ kid), (sTyp, strJ typ)]
def signedP (kid typ : ByteArray) (payload : List UInt8) : List UInt8 := encP (wrJ (headJ kid typ)) ++ 46 :: encP payload
def tokenP (kid typ : ByteArray) (payload key : List UInt8) : List UInt8 := signedP kid typ payload ++ 46 :: encP (hmac key (signedP kid typ payload))
def signP (kid typ : ByteArray) (payload key : List UInt8) : ByteArray × Int :=
 if (wordP 40 kid && wordP 40 typ) = false then (⟨#[]⟩, 10) else if payload.length > 16384 then (⟨#[]⟩, 11) else if key.length < 16 then (⟨#[]⟩, 41) else (⟨(tokenP kid typ payload key).toArray⟩, 0)
structure Tok where
 kid : ByteArray
 typ : ByteArray
 payload : List UInt8
 signed : List UInt8
 tag : List UInt8
def wordJ (j : J) (s : ByteArray) : Option ByteArray := match j.get s with
 | some m => if m.kind = 4 ∧ wordP 40 m.text = true then some m.text else none
 | none => none
def methodP (j : J) : Bool := (match j.get sAlg with
 | some m => (m.kind == 4) && strEq m.text sHs
 | none => false) && (j.get sCrit).isNone
def tok3 (a b c : List UInt8) : Except Int Tok :=
 match decP ⟨a.toArray⟩, decP ⟨b.toArray⟩, decP ⟨c.toArray⟩ with
 | some h, some p, some t =>
  if (parseP h 4).2.1 = 0 ∧ (parseP h 4).1.kind = 6 then
   match wordJ (parseP h 4).1 sKid, wordJ (parseP h 4).1 sTyp with
   | some kid, some typ => if p.length ≤ 16384 ∧ t.length = 32 then (if methodP (parseP h 4).1 then .ok ⟨kid, typ, p, a ++ 46 :: b, t⟩ else .error 42) else .error 10
   | _, _ => .error 10
  else .error 10
 | _, _, _ => .error 10
def partsP (s : ByteArray) : Except Int Tok :=
 if s.size > 49152 then .error 11 else
 match partsL 46 [] s.data.toList with
 | [a, b, c] => tok3 a b c
 | _ => .error 10
def verifyP (s : ByteArray) (key : List UInt8) : Except Int Tok :=
 match partsP s with
 | .error e => .error e
 | .ok t => if key.length < 16 then .error 41 else if t.tag = hmac key t.signed then .ok t else .error 40
theorem partsL_last (c : UInt8) : ∀ (l cur : List UInt8), c ∉ l → partsL c cur l = [cur ++ l]
 | [], cur, _ => by simp [partsL]
 | x :: r, cur, h => by
  simp only [List.mem_cons, not_or] at h
  unfold partsL
  rw [if_neg (Ne.symm h.1), partsL_last c r _ h.2]
  simp
theorem partsL_more (c : UInt8) (r : List UInt8) : ∀ (l cur : List UInt8), c ∉ l → partsL c cur (l ++ c :: r) = (cur ++ l) :: partsL c [] r
 | [], cur, _ => by
  show partsL c cur (c :: r) = _
  rw [partsL, if_pos rfl, List.append_nil]
 | x :: l, cur, h => by
  simp only [List.mem_cons, not_or] at h
  show partsL c cur (x :: (l ++ c :: r)) = _
  rw [partsL, if_neg (Ne.symm h.1), partsL_more c r l _ h.2]
  simp
theorem encP_len : ∀ (k : Nat) (l : List UInt8), l.length < k → (encP l).length ≤ 2 * l.length
 | 0, l, h => by omega
 | k + 1, [], _ => by simp [encP_nil]
 | k + 1, [a], _ => by rw [encP_1]; simp [four]
 | k + 1, [a, b], _ => by rw [encP_2]; simp [four]
 | k + 1, a :: b :: c :: l, h => by
  have := encP_len k l (by simp only [List.length_cons] at h; omega)
  rw [encP_3]
  simp only [List.length_append, List.length_cons, four, List.length_nil]
  omega
theorem esc_len : ∀ l : List UInt8, (l.flatMap escB).length ≤ 6 * l.length
 | [] => by simp
 | c :: l => by
  have := esc_len l
  have h1 : ∀ n : Fin 256, (escB (UInt8.ofNat n.val)).length ≤ 6 := by decide +kernel
  have h2 := h1 ⟨c.toNat, c.toNat_lt⟩
  simp only [UInt8.ofNat_toNat] at h2
  simp only [List.flatMap_cons, List.length_append, List.length_cons]
  omega
theorem quote_len (l : List UInt8) : (quoteB l).length ≤ 6 * l.length + 2 := by
 have := esc_len l
 unfold quoteB
 simp only [List.length_append, List.length_cons, List.length_nil]
 omega
theorem wr_str (s : ByteArray) : wrJ (strJ s) = quoteB s.data.toList := by unfold strJ; simp [wrJ]
theorem word_size {m : Nat} {s : ByteArray} (h : wordP m s = true) : s.size ≤ m ∧ toldP s = true ∧ s ≠ ⟨#[]⟩ := by
 unfold Wo.wordP at h
 simp only [Bool.and_eq_true, decide_eq_true_eq, Bool.not_eq_true', strEq_false] at h
 exact ⟨h.2.1, h.2.2, h.1⟩
theorem word_told {m : Nat} {s : ByteArray} (h : wordP m s = true) : Ro.Told s.data.toList := (toldP_iff s).1 (word_size h).2.1
theorem dl (s : ByteArray) : s.data.toList.length = s.size := by rw [Array.length_toList]; rfl
theorem head_wr (kid typ : ByteArray) : wrJ (headJ kid typ) = [123] ++ quoteB sAlg.data.toList ++ [58] ++ quoteB sHs.data.toList ++ [44] ++ quoteB sKid.data.toList ++ [58] ++ quoteB kid.data.toList ++ [44] ++ quoteB sTyp.data.toList ++ [58] ++ quoteB typ.data.toList ++ [125] := by
 unfold headJ objJ
 simp only [wrJ, wrMs, wr_str]
 simp [List.append_assoc]
theorem head_told {kid typ : ByteArray} (h1 : wordP 40 kid = true) (h2 : wordP 40 typ = true) : Ro.Told (wrJ (headJ kid typ)) := by
 have a1 := (word_told h1).quote
 have a2 := (word_told h2).quote
 rw [head_wr]
 have asc : ∀ l : List UInt8, l.all (fun c => decide (c.toNat < 128)) = true → Ro.Told l := fun l h => .ascii h
 refine Ro.Told.append (Ro.Told.append (Ro.Told.append (Ro.Told.append (Ro.Told.append (Ro.Told.append ?_ a1) (asc _ (by decide))) (asc _ (by decide +kernel))) (asc _ (by decide))) a2) (asc _ (by decide))
 exact asc _ (by decide +kernel)
theorem head_len {kid typ : ByteArray} (h1 : wordP 40 kid = true) (h2 : wordP 40 typ = true) : (wrJ (headJ kid typ)).length ≤ 600 := by
 have b1 := quote_len kid.data.toList
 have b2 := quote_len typ.data.toList
 rw [dl] at b1 b2
 have c1 := (word_size h1).1
 have c2 := (word_size h2).1
 have e1 : (quoteB sAlg.data.toList).length = 5 := by decide +kernel
 have e2 : (quoteB sHs.data.toList).length = 7 := by decide +kernel
 have e3 : (quoteB sKid.data.toList).length = 5 := by decide +kernel
 have e4 : (quoteB sTyp.data.toList).length = 5 := by decide +kernel
 rw [head_wr]
 simp only [List.length_append, List.length_cons, List.length_nil, e1, e2, e3, e4]
 omega
theorem head_pl (kid typ : ByteArray) : Pl 4 (headJ kid typ) := by
 refine .obj _ (fun i s j h => ?_) ?_
 ·rcases i with _ | _ | _ | i
  ·simp at h; obtain ⟨_, rfl⟩ := h; exact .str _
  ·simp at h; obtain ⟨_, rfl⟩ := h; exact .str _
  ·simp at h; obtain ⟨_, rfl⟩ := h; exact .str _
  ·simp at h
 ·show ([sAlg, sKid, sTyp] : List ByteArray).Nodup
  decide
theorem head_parse {kid typ : ByteArray} (h1 : wordP 40 kid = true) (h2 : wordP 40 typ = true) : parseP (wrJ (headJ kid typ)) 4 = (headJ kid typ, 0, 0) :=
 parse_read (head_pl kid typ) (by decide) (by decide) (by have := head_len h1 h2; omega) (head_told h1 h2)
theorem token_read {kid typ : ByteArray} {payload key : List UInt8} (h1 : wordP 40 kid = true) (h2 : wordP 40 typ = true) (h3 : payload.length ≤ 16384) :
  partsP ⟨(tokenP kid typ payload key).toArray⟩ = .ok ⟨kid, typ, payload, signedP kid typ payload, hmac key (signedP kid typ payload)⟩ := by
 have l1 := encP_len _ (wrJ (headJ kid typ)) (Nat.lt_succ_self _)
 have l2 := encP_len _ payload (Nat.lt_succ_self _)
 have l3 := encP_len _ (hmac key (signedP kid typ payload)) (Nat.lt_succ_self _)
 have l4 : (hmac key (signedP kid typ payload)).length = 32 := sha_length _
 have l5 := head_len h1 h2
 have hsz : (⟨(tokenP kid typ payload key).toArray⟩ : ByteArray).size ≤ 49152 := by
  show (tokenP kid typ payload key).toArray.size ≤ _
  rw [List.size_toArray]
  unfold tokenP
  rw [List.length_append, List.length_cons]
  have : (signedP kid typ payload).length = (encP (wrJ (headJ kid typ))).length + ((encP payload).length + 1) := by unfold signedP; rw [List.length_append, List.length_cons]
  omega
 unfold partsP
 rw [if_neg (by omega)]
 have hp : partsL 46 [] (⟨(tokenP kid typ payload key).toArray⟩ : ByteArray).data.toList = [encP (wrJ (headJ kid typ)), encP payload, encP (hmac key (signedP kid typ payload))] := by
  show partsL 46 [] (tokenP kid typ payload key) = _
  unfold tokenP
  conv => lhs; unfold signedP
  rw [List.append_assoc, List.cons_append, partsL_more 46 _ _ _ (encP_dot _ _ (Nat.lt_succ_self _)), partsL_more 46 _ _ _ (encP_dot _ _ (Nat.lt_succ_self _)), partsL_last 46 _ _ (encP_dot _ _ (Nat.lt_succ_self _))]
  rfl
 rw [hp]
 show tok3 _ _ _ = _
 unfold tok3
 rw [decP_encP, decP_encP, decP_encP]
 simp only []
 rw [head_parse h1 h2, if_pos ⟨rfl, rfl⟩]
 have g1 : (headJ kid typ).get sKid = some (strJ kid) := rfl
 have g2 : (headJ kid typ).get sTyp = some (strJ typ) := rfl
 have g3 : (headJ kid typ).get sAlg = some (strJ sHs) := rfl
 have g4 : (headJ kid typ).get sCrit = none := rfl
 have w1 : wordJ (headJ kid typ) sKid = some kid := by unfold wordJ; rw [g1]; exact if_pos ⟨rfl, h1⟩
 have w2 : wordJ (headJ kid typ) sTyp = some typ := by unfold wordJ; rw [g2]; exact if_pos ⟨rfl, h2⟩
 have hm : methodP (headJ kid typ) = true := by unfold methodP; rw [g3, g4]; rfl
 simp only [w1, w2, hm]
 rw [if_pos ⟨h3, l4⟩]
 rfl
theorem sign_verify {kid typ : ByteArray} {payload key : List UInt8} {s : ByteArray} (h : signP kid typ payload key = (s, 0)) :
  verifyP s key = .ok ⟨kid, typ, payload, signedP kid typ payload, hmac key (signedP kid typ payload)⟩ := by
 unfold signP at h
 split at h
 ·cases h
 split at h
 ·cases h
 split at h
 ·cases h
 rename_i h1 h2 h3
 simp only [Prod.mk.injEq, and_true] at h
 subst h
 simp only [Bool.not_eq_false, Bool.and_eq_true] at h1
 unfold verifyP
 rw [token_read h1.1 h1.2 (by omega)]
 simp only []
 rw [if_neg (by omega), if_pos trivial]
end Go.Kx.Jw
namespace Go.Kx.Ro
open Go.Proofs Go.Kx Go.RowKit Go.Kx.Js Go.Kx.Pr Go.Kx.Rt
set_option maxRecDepth 20000
set_option linter.unusedSimpArgs false
mutual
def szJ : J → Nat
 | .mk _ _ t js ms => t.size + szJs js + szMs ms
def szJs : List J → Nat
 | [] => 0
 | j :: r => szJ j + 1 + szJs r
def szMs : List (ByteArray × J) → Nat
 | [] => 0
 | (s, j) :: r => s.size + szJ j + 1 + szMs r
end
theorem szJs_snoc (j : J) : ∀ js : List J, szJs (js ++ [j]) = szJs js + (szJ j + 1)
 | [] => by simp [szJs]
 | a :: r => by simp only [List.cons_append, szJs, szJs_snoc j r]; omega
theorem szMs_snoc (s : ByteArray) (j : J) : ∀ ms : List (ByteArray × J), szMs (ms ++ [(s, j)]) = szMs ms + (s.size + szJ j + 1)
 | [] => by simp [szMs]
 | (t, a) :: r => by simp only [List.cons_append, szMs, szMs_snoc s j r]; omega
theorem szJs_len : ∀ js : List J, js.length ≤ szJs js
 | [] => by simp
 | a :: r => by have := szJs_len r; simp only [List.length_cons, szJs]; omega
theorem szMs_len : ∀ ms : List (ByteArray × J), ms.length ≤ szMs ms
 | [] => by simp
 | (t, a) :: r => by have := szMs_len r; simp only [List.length_cons, szMs]; omega
mutual
theorem sm_of : ∀ j : J, szJ j ≤ 190000 → smJ j
 | .mk _ _ t js ms, h => by
  simp only [szJ] at h
  have := szJs_len js
  have := szMs_len ms
  exact ⟨by omega, by omega, by omega, sms_of js (by omega), smms_of ms (by omega)⟩
theorem sms_of : ∀ js : List J, szJs js ≤ 190000 → smJs js
 | [], _ => trivial
 | j :: r, h => by simp only [szJs] at h; exact ⟨sm_of j (by omega), sms_of r (by omega)⟩
theorem smms_of : ∀ ms : List (ByteArray × J), szMs ms ≤ 190000 → smMs ms
 | [], _ => trivial
 | (s, j) :: r, h => by simp only [szMs] at h; exact ⟨by omega, sm_of j (by omega), smms_of r (by omega)⟩
end
theorem esc6 : ∀ l : List UInt8, (l.flatMap escB).length ≤ 6 * l.length
 | [] => by simp
 | c :: l => by
  have := esc6 l
  have h1 : ∀ n : Fin 256, (escB (UInt8.ofNat n.val)).length ≤ 6 := by decide +kernel
  have h2 := h1 ⟨c.toNat, c.toNat_lt⟩
  simp only [UInt8.ofNat_toNat] at h2
  simp only [List.flatMap_cons, List.length_append, List.length_cons]
  omega
theorem quote6 (s : ByteArray) : (quoteB s.data.toList).length ≤ 6 * s.size + 2 := by
 have := esc6 s.data.toList
 have h : s.data.toList.length = s.size := by rw [Array.length_toList]; rfl
 unfold quoteB
 simp only [List.length_append, List.length_cons, List.length_nil]
 omega
mutual
theorem wr_of : ∀ j : J, (wrJ j).length ≤ 10 * szJ j + 6
 | .mk k y t js ms => by
  have h1 := wrs_of js true
  have h2 := wrms_of ms true
  have h3 := quote6 t
  have h : t.data.toList.length = t.size := by rw [Array.length_toList]; rfl
  simp only [wrJ, szJ]
  split
  ·simp
  split
  ·split <;> simp
  split
  ·omega
  split
  ·omega
  split
  ·simp only [List.length_append, List.length_cons, List.length_nil]; omega
  split
  ·simp only [List.length_append, List.length_cons, List.length_nil]; omega
  ·simp
theorem wrs_of : ∀ (js : List J) (f : Bool), (wrJs f js).length ≤ 10 * szJs js
 | [], f => by simp [wrJs]
 | j :: r, f => by
  have h1 := wr_of j
  have h2 := wrs_of r false
  have h3 : (if f then ([] : List UInt8) else [44]).length ≤ 1 := by cases f <;> simp
  simp only [wrJs, szJs, List.length_append]
  omega
theorem wrms_of : ∀ (ms : List (ByteArray × J)) (f : Bool), (wrMs f ms).length ≤ 10 * szMs ms
 | [], f => by simp [wrMs]
 | (s, j) :: r, f => by
  have h1 := wr_of j
  have h2 := wrms_of r false
  have h4 := quote6 s
  have h3 : (if f then ([] : List UInt8) else [44]).length ≤ 1 := by cases f <;> simp
  simp only [wrMs, szMs, List.length_append, List.length_cons, List.length_nil]
  omega
end
theorem tk_len {c : UInt8} {l r : List UInt8} (h : tk c l = some r) : l.length = r.length + 1 := by rw [tk_some h]; rfl
theorem must_len {c : UInt8} {l r : List UInt8} {u : Unit} (h : mustP c l = .ok u r) : l.length = r.length + 1 := by rw [mustP_ok h]; rfl
theorem strP_sz : ∀ (m : Nat) (b l : List UInt8) {x r : List UInt8}, strP m b l = .ok x r → x.length + 4 * r.length + 4 ≤ b.length + 4 * l.length
 | 0, b, l, x, r, h => by cases h
 | m + 1, b, l, x, r, h => by
  cases h34 : tk 34 l with
  | some r2 =>
   rw [strP_end h34] at h
   injection h with h1 h
   subst h h1
   have := tk_len h34
   omega
  | none =>
   cases h92 : tk 92 l with
   | some r2 =>
    rw [strP_esc h34 h92] at h
    obtain ⟨y, r3, h1, h⟩ := bind_ok h
    have i1 := strP_sz m _ _ h
    obtain ⟨i2, i3⟩ := escP_sfx h1
    have i4 := i2.le
    have i5 := tk_len h92
    rw [List.length_append] at i1
    omega
   | none =>
    by_cases hc : (pk l).toNat < 32
    ·rw [strP_ctl h34 h92 hc] at h; cases h
    ·rw [strP_chr h34 h92 hc] at h
     have i1 := strP_sz m _ _ h
     cases l with
     | nil => exact absurd (show (pk []).toNat < 32 by decide) hc
     | cons c t =>
      simp only [List.length_append, List.length_cons, List.length_nil, List.tail_cons] at i1 ⊢
      omega
theorem textP_sz {l r : List UInt8} {t : ByteArray} (h : textP l = .ok t r) : t.size + 4 * r.length + 8 ≤ 4 * l.length := by
 unfold textP at h
 obtain ⟨_, r1, h1, h⟩ := bind_ok h
 obtain ⟨b, r2, h2, h⟩ := bind_ok h
 injection h with h3 h
 subst h h3
 have i1 := must_len h1
 have i2 := strP_sz _ _ _ h2
 have e : (⟨b.toArray⟩ : ByteArray).size = b.length := List.size_toArray
 rw [e]
 simp only [List.length_nil] at i2
 omega
theorem numberP_sz {l r : List UInt8} {t : ByteArray} (h : numberP l = .ok t r) : t.size + 4 * r.length ≤ 4 * l.length := by
 have hs := (numberP_sfx h).le
 unfold numberP at h
 obtain ⟨_, r1, h1, h⟩ := bind_ok h
 obtain ⟨_, r2, h2, h⟩ := bind_ok h
 obtain ⟨_, r3, h3, h⟩ := bind_ok h
 injection h with h4 h
 subst h h4
 have e : (⟨(l.take (l.length - r3.length)).toArray⟩ : ByteArray).size = (l.take (l.length - r3.length)).length := List.size_toArray
 rw [e, List.length_take]
 omega
def SzV (val : List UInt8 → Res J) : Prop := ∀ l j r, val l = .ok j r → szJ j + 4 * r.length ≤ 4 * l.length
theorem rowP_sz {α : Type} (mu : α → Nat) {one : α → List UInt8 → Res α} {en : UInt8} (ho : ∀ x l y r, one x l = .ok y r → mu y + 4 * r.length ≤ mu x + 4 * l.length + 1) : ∀ (m : Nat) (first : Bool) (x : α) (l : List UInt8) {y : α} {r : List UInt8}, rowP one en m first x l = .ok y r → mu y + 4 * r.length ≤ mu x + 4 * l.length
 | 0, first, x, l, y, r, h => by cases h
 | m + 1, first, x, l, y, r, h => by
  cases hf : (if first then tk en l else none) with
  | some r2 =>
   cases first with
   | false => cases hf
   | true =>
    rw [if_pos rfl] at hf
    rw [rowP_end hf] at h
    injection h with h1 h
    subst h h1
    have := tk_len hf
    omega
  | none =>
   rw [rowP_go hf] at h
   obtain ⟨z, r1, h1, h⟩ := bind_ok h
   have i1 := ho _ _ _ _ h1
   have i2 := (blankP_sfx r1).le
   split at h
   ·rename_i r2 ht
    injection h with h3 h
    subst h h3
    have := tk_len ht
    omega
   ·obtain ⟨_, r3, h3, h⟩ := bind_ok h
    have i3 := must_len h3
    have i4 := (blankP_sfx r3).le
    have i5 := rowP_sz mu ho m _ _ _ h
    omega
theorem valS_sz {deeper : Option (List UInt8 → Res J)} (hd : ∀ val, deeper = some val → SzV val) : SzV (valS deeper) := by
 intro l j r h
 rw [valS_eq] at h
 unfold valT at h
 split at h
 ·obtain ⟨_, r1, h1, h⟩ := bind_ok h; injection h with h2 h; subst h h2; have := (wordP_sfx _ _ h1).le; simp only [jNull, szJ, szJs, szMs]; show 0 + 0 + 0 + _ ≤ _; omega
 split at h
 ·obtain ⟨_, r1, h1, h⟩ := bind_ok h; injection h with h2 h; subst h h2; have := (wordP_sfx _ _ h1).le; simp only [jTruth, szJ, szJs, szMs]; show 0 + 0 + 0 + _ ≤ _; omega
 split at h
 ·obtain ⟨_, r1, h1, h⟩ := bind_ok h; injection h with h2 h; subst h h2; have := (wordP_sfx _ _ h1).le; simp only [jTruth, szJ, szJs, szMs]; show 0 + 0 + 0 + _ ≤ _; omega
 split at h
 ·obtain ⟨t, r1, h1, h⟩ := bind_ok h; injection h with h2 h; subst h h2; have := textP_sz h1; simp only [jStr, szJ, szJs, szMs]; omega
 split at h
 ·cases deeper with
  | none => cases h
  | some val =>
   obtain ⟨js, r1, h1, h⟩ := bind_ok h; injection h with h4 h; subst h h4
   obtain ⟨_, r2, h2, h1⟩ := bind_ok h1
   have i1 := rowP_sz szJs (fun x l y r he => by
    obtain ⟨j, r1, h1, h2⟩ := bind_ok he
    injection h2 with h3 h4
    subst h3 h4
    have := hd val rfl _ _ _ h1
    rw [szJs_snoc]; omega) _ _ _ _ h1
   have i2 := (enterP_sfx h2).le
   simp only [szJs] at i1
   simp only [jArr, szJ, szMs]
   show 0 + _ + 0 + _ ≤ _
   omega
 split at h
 ·cases deeper with
  | none => cases h
  | some val =>
   obtain ⟨ms, r1, h1, h⟩ := bind_ok h; injection h with h4 h; subst h h4
   obtain ⟨_, r2, h2, h1⟩ := bind_ok h1
   have i1 := rowP_sz szMs (fun x l y r he => by
    obtain ⟨t, r1, h1, h2⟩ := bind_ok he
    split at h2
    ·cases h2
    ·obtain ⟨_, r2, h3, h2⟩ := bind_ok h2
     obtain ⟨j, r3, h4, h2⟩ := bind_ok h2
     injection h2 with h5 h6
     subst h5 h6
     have a1 := textP_sz h1
     have a2 := (blankP_sfx r1).le
     have a3 := must_len h3
     have a4 := (blankP_sfx r2).le
     have a5 := hd val rfl _ _ _ h4
     rw [szMs_snoc]; omega) _ _ _ _ h1
   have i2 := (enterP_sfx h2).le
   simp only [szMs] at i1
   simp only [jObj, szJ, szJs]
   show 0 + 0 + _ + _ ≤ _
   omega
 split at h
 ·obtain ⟨t, r1, h1, h⟩ := bind_ok h; injection h with h2 h; subst h h2; have := numberP_sz h1; simp only [jNum, szJ, szJs, szMs]; omega
 ·cases h
theorem valP_sz : ∀ d, SzV (valP d)
 | 0 => valS_sz fun _ h => (nomatch h)
 | d + 1 => valS_sz fun _ h => by injection h with h; subst h; exact valP_sz d
theorem parse_sz (bs : List UInt8) (d : Int) : szJ (parseP bs d).1 ≤ 65536 := by
 unfold parseP
 split
 ·exact Nat.zero_le _
 split
 ·exact Nat.zero_le _
 split
 ·exact Nat.zero_le _
 rename_i h1 _ _
 split
 ·rename_i j r h
  unfold wholeP at h
  obtain ⟨j2, r2, h2, h⟩ := bind_ok h
  have i1 := valP_sz _ _ _ _ h2
  have i2 := (blankP_sfx bs).le
  split at h
  ·injection h with h3 h
   subst h3
   show szJ j2 ≤ _
   omega
  ·cases h
 ·exact Nat.zero_le _
end Go.Kx.Ro
