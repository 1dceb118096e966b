/- SHA-256: a block gone through. No condition of its own. -/
import Derived.Test.YtjpjpdmceliofaaDoorShaC
import Derived.Test.YtjpjpdmceliofaaDoorKE
namespace Go.Kx.Sha
open Go.Proofs Go.Kx
set_option maxRecDepth 20000

def s8 (s : Fin 8 → BitVec 32) : List SC := [.val (cellW (s 0)), .val (cellW (s 1)), .val (cellW (s 2)), .val (cellW (s 3)), .val (cellW (s 4)), .val (cellW (s 5)), .val (cellW (s 6)), .val (cellW (s 7))]
/-- A round. -/
def Sg0 (a : BitVec 32) : BitVec 32 := a.rotateRight 2 ^^^ a.rotateRight 13 ^^^ a.rotateRight 22
def Sg1 (e : BitVec 32) : BitVec 32 := e.rotateRight 6 ^^^ e.rotateRight 11 ^^^ e.rotateRight 25
structure St8 where
  a : BitVec 32
  b : BitVec 32
  c : BitVec 32
  d : BitVec 32
  e : BitVec 32
  f : BitVec 32
  g : BitVec 32
  h : BitVec 32
def St8.t1 (s : St8) (k w : BitVec 32) : BitVec 32 := s.h + Sg1 s.e + ((s.e &&& s.f) ^^^ (~~~ s.e &&& s.g)) + k + w
def St8.t2 (s : St8) : BitVec 32 := Sg0 s.a + ((s.a &&& s.b) ^^^ (s.a &&& s.c) ^^^ (s.b &&& s.c))
def St8.round (s : St8) (k w : BitVec 32) : St8 := ⟨s.t1 k w + s.t2, s.a, s.b, s.c, s.d + s.t1 k w, s.e, s.f, s.g⟩
def rounds (bs : List UInt8) (s : St8) : Nat → St8
  | 0 => s
  | t + 1 => (rounds bs s t).round (kAt t) (wAt bs t)
def St8.cells (s : St8) : List SC := [.val (cellW s.a), .val (cellW s.b), .val (cellW s.c), .val (cellW s.d), .val (cellW s.e), .val (cellW s.f), .val (cellW s.g), .val (cellW s.h)]
def St8.vals (s : St8) : List Value := [cellW s.a, cellW s.b, cellW s.c, cellW s.d, cellW s.e, cellW s.f, cellW s.g, cellW s.h]
def wVals (bs : List UInt8) : List Value := lit64 fun i => cellW (wAt bs i)
/-- Ahead of a round. -/
def RI (st : St8) (n : Nat) (bs : List UInt8) (H : Hp) (m : Nat) (F : Fr) (H2 : Hp) (G : List SB) : Prop :=
  ∃ t : Nat, t < 64 ∧ m = 64 - t ∧ F = [(2, .si (.ce (.ptr 1 0))), (4, .si (.ce (.ptr 2 0))), (5, .si (.ce (.ptr 3 0))), (6, .si (.ce (.ptr 4 0))), (7, pv (.int .i64 t))] ∧ H2 = H ∧
    G = [.row 5 1 n (bCells bs), .box 144 st.cells, .box 144 [.val (.int .u32 0), .val (.int .u32 0), .val (.int .u32 0), .val (.int .u32 0), .val (.int .u32 0), .val (.int .u32 0), .val (.int .u32 0), .val (.int .u32 0)], .arr 161 (wVals bs), .box 144 (rounds bs st t).cells]
theorem wVals_get {bs : List UInt8} {t off : Nat} (ht : t < 64) (ho : off = t) : (wVals bs)[off]? = some (.int .u32 (u (wAt bs t))) := by
  subst ho
  unfold wVals
  rw [lit64_eq, List.getElem?_map, List.getElem?_range ht]
  rfl
theorem u_not (a : BitVec 32) : IntKind.u32.wrap ((BitVec.ofInt IntKind.u32.bits (if IntKind.u32.signed = true then -1 else IntKind.u32.max) ^^^ BitVec.ofInt IntKind.u32.bits (u a)).toNat : Int) = u (~~~ a) := by
  have h : ((BitVec.ofInt 32 (-1 + 4294967296)) : BitVec 32) = BitVec.allOnes 32 := by decide
  have h1 : IntKind.u32.max = (-1 + 4294967296 : Int) := by decide
  rw [show (if IntKind.u32.signed = true then (-1 : Int) else IntKind.u32.max) = (-1 + 4294967296 : Int) by rw [if_neg (by decide), h1]]
  show IntKind.u32.wrap ((BitVec.ofInt 32 (-1 + 4294967296) ^^^ BitVec.ofInt 32 (u a)).toNat : Int) = _
  rw [h, show BitVec.ofInt 32 (u a) = a from ofInt_u a, BitVec.allOnes_xor]
  exact wrap32 (u_lt _).1 (u_lt (~~~ a)).2
def St8.add (s t : St8) : St8 := ⟨s.a + t.a, s.b + t.b, s.c + t.c, s.d + t.d, s.e + t.e, s.f + t.f, s.g + t.g, s.h + t.h⟩
/-- The first k cells added. -/
def addC (s t : St8) : Nat → List SC
  | 0 => s.cells
  | 1 => (St8.mk (s.a + t.a) s.b s.c s.d s.e s.f s.g s.h).cells
  | 2 => (St8.mk (s.a + t.a) (s.b + t.b) s.c s.d s.e s.f s.g s.h).cells
  | 3 => (St8.mk (s.a + t.a) (s.b + t.b) (s.c + t.c) s.d s.e s.f s.g s.h).cells
  | 4 => (St8.mk (s.a + t.a) (s.b + t.b) (s.c + t.c) (s.d + t.d) s.e s.f s.g s.h).cells
  | 5 => (St8.mk (s.a + t.a) (s.b + t.b) (s.c + t.c) (s.d + t.d) (s.e + t.e) s.f s.g s.h).cells
  | 6 => (St8.mk (s.a + t.a) (s.b + t.b) (s.c + t.c) (s.d + t.d) (s.e + t.e) (s.f + t.f) s.g s.h).cells
  | 7 => (St8.mk (s.a + t.a) (s.b + t.b) (s.c + t.c) (s.d + t.d) (s.e + t.e) (s.f + t.f) (s.g + t.g) s.h).cells
  | _ => (s.add t).cells
def zero8 : List SC := [.val (.int .u32 0), .val (.int .u32 0), .val (.int .u32 0), .val (.int .u32 0), .val (.int .u32 0), .val (.int .u32 0), .val (.int .u32 0), .val (.int .u32 0)]
/-- A block gone through. -/
def compressP (bs : List UInt8) (st : St8) : St8 := (rounds bs st 64).add st
theorem compress (st : St8) (n : Nat) (bs : List UInt8) (hn : 64 ≤ n) (hl : bs.length = n) (H : Hp) : CallO Tryd.prog 118 [.si (.ag st.cells), .si (.ce (.self 0))] H [.row 5 1 n (bCells bs)] fun e H' G' =>
    e = .ret (.si (.ag (compressP bs st).cells)) ∧ H' = H ∧ G' = [.row 5 1 n (bCells bs)] := by
  refine CallO.of_bodyW tab Tryd.func118 rfl (nt := Tryd.f118.ntmps) rfl (by kernel_rfl) ?_
  refine W.seqS (codeX_ok tab _ ?_)
  conv => whnf
  refine WS.scopeR (l := 0) rfl (RI st n bs H) 64 ?_ ?_
  · rintro m F H2 G hle ⟨t, ht, rfl, rfl, rfl, rfl⟩
    refine codeL.go tab ?_
    conv => whnf
    refine WS.draw tab mixed (.take 0 (.take 1 (.take 2 (.take 3 (.take 5 (.take 6 (.take 9 (.take 10 (.take 14 (.take 15 (.take 16 (.take 17 (.take 18 (.take 19 (.take 20 (.take 21 (.take 22 (.take 23 (.take 24 (.take 25 (.take 27 (.take 30 (.take 31 (.take 32 (.alt 4 (.alt 7 (.take 8 (.alt 11 (.take 12 (.take 13 (.take 26 (.alt 28 (.take 29 (.take 33 (.take 34 .done))) .no)))) .no)) .no) .no))))))))))))))))))))))))) (by kernel_rfl) [] ?_
    conv => whnf
    generalize hR : rounds bs st t = R
    iterate 8 (refine ⟨by decide, ?_⟩; conv => whnf)
    refine ⟨⟨by omega, by omega⟩, ?_⟩
    conv => whnf
    refine ⟨_, wVals_get ht (by simp), ?_⟩
    conv => whnf
    refine ⟨⟨⟨_, Tryd.func135, rfl, by kernel_rfl⟩, CallS.use (right R.e 6 (by decide) (by decide) H2) [] rfl rfl trivial ?_⟩, trivial⟩
    rintro e H3 G' hle3 ⟨rfl, rfl, rfl⟩
    conv => whnf
    refine ⟨⟨rfl, rfl, rfl, rfl, rfl, trivial⟩, ?_⟩
    conv => whnf
    refine ⟨⟨⟨_, Tryd.func135, rfl, by kernel_rfl⟩, CallS.use (right R.e 11 (by decide) (by decide) H3) [] rfl rfl trivial ?_⟩, trivial⟩
    rintro e H4 G' hle4 ⟨rfl, rfl, rfl⟩
    conv => whnf
    refine ⟨⟨rfl, rfl, rfl, rfl, rfl, trivial⟩, ?_⟩
    conv => whnf
    refine ⟨⟨⟨_, Tryd.func135, rfl, by kernel_rfl⟩, CallS.use (right R.e 25 (by decide) (by decide) H4) [] rfl rfl trivial ?_⟩, trivial⟩
    rintro e H5 G' hle5 ⟨rfl, rfl, rfl⟩
    conv => whnf
    refine ⟨⟨rfl, rfl, rfl, rfl, rfl, trivial⟩, ?_⟩
    conv => whnf
    refine ⟨⟨⟨_, Tryd.func136, rfl, by kernel_rfl⟩, CallS.use (kOf t ht H5) [] rfl rfl trivial ?_⟩, trivial⟩
    rintro e H6 G' hle6 ⟨rfl, rfl, rfl⟩
    conv => whnf
    refine ⟨⟨rfl, rfl, rfl, rfl, rfl, trivial⟩, ?_⟩
    conv => whnf
    refine WS.draw tab mixed (.take 0 (.take 1 (.take 3 (.take 4 (.take 7 (.take 8 (.take 11 (.take 12 (.take 13 (.take 14 (.take 15 (.take 16 (.take 17 (.take 18 (.take 19 (.take 20 (.take 21 (.take 22 (.take 23 (.take 24 (.take 25 (.take 26 (.take 27 (.alt 2 (.alt 5 (.take 6 (.alt 9 (.take 10 (.take 28 (.take 29 .done))) .no)) .no) .no)))))))))))))))))))))))) (by kernel_rfl) [] ?_
    conv => whnf
    iterate 9 (refine ⟨by decide, ?_⟩; conv => whnf)
    refine ⟨⟨⟨_, Tryd.func135, rfl, by kernel_rfl⟩, CallS.use (right R.a 2 (by decide) (by decide) H6) [] rfl rfl trivial ?_⟩, trivial⟩
    rintro e H7 G' hle7 ⟨rfl, rfl, rfl⟩
    conv => whnf
    refine ⟨⟨rfl, rfl, rfl, rfl, rfl, trivial⟩, ?_⟩
    conv => whnf
    refine ⟨⟨⟨_, Tryd.func135, rfl, by kernel_rfl⟩, CallS.use (right R.a 13 (by decide) (by decide) H7) [] rfl rfl trivial ?_⟩, trivial⟩
    rintro e H8 G' hle8 ⟨rfl, rfl, rfl⟩
    conv => whnf
    refine ⟨⟨rfl, rfl, rfl, rfl, rfl, trivial⟩, ?_⟩
    conv => whnf
    refine ⟨⟨⟨_, Tryd.func135, rfl, by kernel_rfl⟩, CallS.use (right R.a 22 (by decide) (by decide) H8) [] rfl rfl trivial ?_⟩, trivial⟩
    rintro e H9 G' hle9 ⟨rfl, rfl, rfl⟩
    conv => whnf
    refine ⟨⟨rfl, rfl, rfl, rfl, rfl, trivial⟩, ?_⟩
    conv => whnf
    iterate 7 (refine ⟨by decide, ?_⟩; conv => whnf)
    rw [wrap64 (x := (t : Int) + 1) (by omega) (by omega)]
    refine br.of (fun h1 => ?_) (fun h1 => ?_) <;> conv => whnf
    · simp only [decide_eq_true_eq] at h1
      simp only [u_not, u_xor, u_and, u_add]
      refine ⟨64 - (t + 1), by omega, _, _, [0, 1, 2, 3, 4], ⟨t + 1, by omega, rfl, rfl, rfl, rfl⟩, rfl, ⟨rfl, rfl, rfl, .inl rfl, ?_, trivial⟩, rfl, rfl, rfl, rfl, rfl, trivial⟩
      show _ = SB.box 144 (((rounds bs st t).round (kAt t) (wAt bs t)).cells.map (SC.ren [0, 1, 2, 3, 4]))
      rw [hR]
      rfl
    · simp only [decide_eq_false_iff_not] at h1
      obtain rfl : t = 63 := by omega
      simp only [u_not, u_xor, u_and, u_add]
      refine WS.loop (fun m F H3 G => ∃ k : Nat, k ≤ 8 ∧ m = 8 - k ∧ F = [(4, .si (.ce (.ptr 2 0))), (6, .si (.ce (.ptr 4 0))), (102, .si (.ag st.cells)), (103, pv (.int .i64 k))] ∧ H3 = H9 ∧
          G = [.row 5 1 n (bCells bs), .box 144 st.cells, .box 144 zero8, .arr 161 (wVals bs), .box 144 (addC (rounds bs st 64) st k)]) 9
        ⟨8, by decide, _, _, [0, 1, 2, 3, 4], ⟨0, by decide, rfl, rfl, rfl, rfl⟩, rfl, ⟨rfl, rfl, rfl, .inl rfl, ?_, trivial⟩, rfl, rfl, rfl, rfl, trivial⟩ ?_
      · show _ = SB.box _ (((rounds bs st 63).round (kAt 63) (wAt bs 63)).cells.map (SC.ren [0, 1, 2, 3, 4]))
        rw [hR]; rfl
      clear hR
      rintro m F H3 G hle10 ⟨k, hk, rfl, rfl, rfl, rfl⟩
      refine codeL.go tab ?_
      unfold compressP
      generalize rounds bs st 64 = R2
      have hk9 : k = 0 ∨ k = 1 ∨ k = 2 ∨ k = 3 ∨ k = 4 ∨ k = 5 ∨ k = 6 ∨ k = 7 ∨ k = 8 := by omega
      rcases hk9 with rfl | rfl | rfl | rfl | rfl | rfl | rfl | rfl | rfl
      all_goals conv => whnf
      all_goals first
        | exact ⟨rfl, rfl, rfl⟩
        | (iterate 4 (first | (refine ⟨by decide, ?_⟩; conv => whnf) | (refine ⟨_, rfl, ?_⟩; conv => whnf))
           rw [u_add]
           first | exact ⟨7, by decide, _, _, [0, 1, 2, 3, 4], ⟨1, by decide, rfl, rfl, rfl, rfl⟩, rfl, ⟨rfl, rfl, rfl, .inl rfl, rfl, trivial⟩, rfl, rfl, rfl, rfl, trivial⟩ | exact ⟨6, by decide, _, _, [0, 1, 2, 3, 4], ⟨2, by decide, rfl, rfl, rfl, rfl⟩, rfl, ⟨rfl, rfl, rfl, .inl rfl, rfl, trivial⟩, rfl, rfl, rfl, rfl, trivial⟩ | exact ⟨5, by decide, _, _, [0, 1, 2, 3, 4], ⟨3, by decide, rfl, rfl, rfl, rfl⟩, rfl, ⟨rfl, rfl, rfl, .inl rfl, rfl, trivial⟩, rfl, rfl, rfl, rfl, trivial⟩ | exact ⟨4, by decide, _, _, [0, 1, 2, 3, 4], ⟨4, by decide, rfl, rfl, rfl, rfl⟩, rfl, ⟨rfl, rfl, rfl, .inl rfl, rfl, trivial⟩, rfl, rfl, rfl, rfl, trivial⟩ | exact ⟨3, by decide, _, _, [0, 1, 2, 3, 4], ⟨5, by decide, rfl, rfl, rfl, rfl⟩, rfl, ⟨rfl, rfl, rfl, .inl rfl, rfl, trivial⟩, rfl, rfl, rfl, rfl, trivial⟩ | exact ⟨2, by decide, _, _, [0, 1, 2, 3, 4], ⟨6, by decide, rfl, rfl, rfl, rfl⟩, rfl, ⟨rfl, rfl, rfl, .inl rfl, rfl, trivial⟩, rfl, rfl, rfl, rfl, trivial⟩ | exact ⟨1, by decide, _, _, [0, 1, 2, 3, 4], ⟨7, by decide, rfl, rfl, rfl, rfl⟩, rfl, ⟨rfl, rfl, rfl, .inl rfl, rfl, trivial⟩, rfl, rfl, rfl, rfl, trivial⟩ | exact ⟨0, by decide, _, _, [0, 1, 2, 3, 4], ⟨8, by decide, rfl, rfl, rfl, rfl⟩, rfl, ⟨rfl, rfl, rfl, .inl rfl, rfl, trivial⟩, rfl, rfl, rfl, rfl, trivial⟩)
  · intro hr
    refine codeL.seqTo tab (fun F H2 G => H2 = H ∧ F = [(2, .si (.ce (.ptr 1 0))), (4, .si (.ce (.ptr 2 0))), (5, .si (.ce (.ptr 3 0))), (6, .si (.ce (.ptr 4 0))), (7, pv (.int .i64 0))] ∧ G = [.row 5 1 n (bCells bs), .box 144 st.cells, .box 144 zero8, .arr 161 (wVals bs), .box 144 st.cells]) ?_ ?_
    · conv => whnf
      refine WS.draw tab mixed (.take 0 (.take 2 (.alt 1 (.alt 3 (.alt 4 (.alt 5 (.alt 6 (.take 7 .done) .no) .no) .no) (.alt 4 (.alt 3 (.alt 5 (.alt 6 (.take 7 .done) .no) .no) .no) .no)) (.alt 3 (.alt 1 (.alt 4 (.alt 5 (.alt 6 (.take 7 .done) .no) .no) .no) (.alt 4 (.alt 1 (.alt 5 (.alt 6 (.take 7 .done) .no) .no) .no) .no)) (.alt 4 (.alt 1 (.alt 3 (.alt 5 (.alt 6 (.take 7 .done) .no) .no) .no) (.alt 3 (.alt 1 (.alt 5 (.alt 6 (.take 7 .done) .no) .no) .no) .no)) .no))))) (by kernel_rfl) [] ?_
      conv => whnf
      repeat' (first
        | exact trivial
        | exact rfl
        | exact ⟨_, Tryd.func134, rfl, by kernel_rfl⟩
        | exact ⟨_, _, [0, 1, 2, 3, 4], ⟨rfl, rfl, rfl⟩, rfl, ⟨rfl, rfl, rfl, .inr rfl, rfl, trivial⟩, rfl, rfl, rfl, rfl, rfl, trivial⟩
        | exact ⟨_, _, [0, 1, 2, 4, 3], ⟨rfl, rfl, rfl⟩, rfl, ⟨rfl, rfl, rfl, .inr rfl, rfl, trivial⟩, rfl, rfl, rfl, rfl, rfl, trivial⟩
        | (refine CallS.use (schedule n bs hn hl _) [0] rfl rfl ⟨rfl, trivial⟩ ?_; rintro e H' G' hle ⟨rfl, rfl, rfl⟩; conv => whnf)
        | (refine And.intro ?_ ?_ <;> conv => whnf))
    · rintro F H2 G hle ⟨rfl, rfl, rfl⟩
      refine codeL.seqTo tab (RI st n bs H2 64) ?_ fun F' H' G' hle hI => codeL.label (hr F' H' G' hle hI)
      conv => whnf
      exact ⟨_, _, [0, 1, 2, 3, 4], ⟨0, by decide, rfl, rfl, rfl, rfl⟩, rfl, ⟨rfl, rfl, rfl, .inl rfl, rfl, trivial⟩, rfl, rfl, rfl, rfl, rfl, trivial⟩
end Go.Kx.Sha
