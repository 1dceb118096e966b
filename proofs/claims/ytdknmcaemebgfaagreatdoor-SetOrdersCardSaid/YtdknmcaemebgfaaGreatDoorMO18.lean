/- The reference of layer 13: claims' text. No condition of its own. -/
import Derived.Test.YtdknmcaemebgfaaGreatDoorMO17
namespace Go.Kx.Rf
open Go.Proofs Go.Kx Go.RowKit Go.Kx.Js Go.Kx.Pr Go.Kx.Cl Go.Kx.Se Go.Kx.Lb Go.Kx.Jw Go.Kx.Ob
set_option maxRecDepth 20000
set_option linter.unusedSimpArgs false
namespace Tx
def T : Tab := [(9, { k := TK.string, agg := false, size := 1, bytes := 16, zero := [Z.s] }), (28, { k := TK.st [(0, 9, 1), (1, 9, 1), (2, 9, 1), (3, 3, 1), (4, 9, 1), (5, 9, 1), (6, 9, 1), (7, 9, 1), (8, 3, 1), (9, 9, 1)], agg := true, size := 10, bytes := 144, zero := [Z.s, Z.s, Z.s, Z.i IntKind.i64, Z.s, Z.s, Z.s, Z.s, Z.i IntKind.i64, Z.s] }), (3, { k := TK.int IntKind.i64, agg := false, size := 1, bytes := 8, zero := [Z.i IntKind.i64] }), (84, { k := TK.ar 6 9 1, agg := true, size := 6, bytes := 96, zero := [Z.s, Z.s, Z.s, Z.s, Z.s, Z.s] }), (4, { k := TK.bool, agg := false, size := 1, bytes := 1, zero := [Z.b] }), (5, { k := TK.int IntKind.u8, agg := false, size := 1, bytes := 1, zero := [Z.i IntKind.u8] }), (55, { k := TK.slice 5, agg := false, size := 1, bytes := 24, zero := [Z.sl] })]
set_option maxRecDepth 100000 in
theorem tab : TabOk Tryz.prog T := tabOk_mk (ts := [9, 28, 3, 84, 4, 5, 55]) (by kernel_rfl)
end Tx
theorem cl_w (c : Clm) : wrJ (clJ c) = ([123, 34, 105, 115, 115, 34, 58] : List UInt8) ++ (quoteB (tL c.iss) ++ (([44, 34, 106, 116, 105, 34, 58] : List UInt8) ++ (quoteB (tL c.jti) ++ (([44, 34, 105, 97, 116, 34, 58] : List UInt8) ++ ((Lb.itoaB c.iat).data.toList ++ (([44, 34, 97, 117, 100, 34, 58] : List UInt8) ++ (quoteB (tL c.aud) ++ (([44, 34, 116, 120, 110, 34, 58] : List UInt8) ++ (quoteB (tL c.txn) ++ (([44, 34, 115, 117, 98, 95, 105, 100, 34, 58] : List UInt8) ++ (wrJ (subJ c.sub) ++ (([44, 34, 101, 118, 101, 110, 116, 115, 34, 58, 123] : List UInt8) ++ (quoteB (tL (nameK c.kind)) ++ (([58] : List UInt8) ++ (wrJ (objJ (evMs c)) ++ ([125, 125] : List UInt8)))))))))))))))) := by
 have e : wrJ (numJ c.iat) = (Lb.itoaB c.iat).data.toList := by unfold numJ; simp [wrJ]
 have h : wrJ (clJ c) = [123] ++ wrMs true (clMs c) ++ [125] := by unfold clJ; generalize clMs c = m; simp only [objJ, wrJ]; rfl
 have h2 : wrJ (evJ c) = [123] ++ wrMs true [(nameK c.kind, objJ (evMs c))] ++ [125] := by unfold evJ; simp only [objJ, wrJ]; rfl
 rw [h]
 unfold clMs
 simp only [wrMs, wr_str, e]
 rw [h2]
 simp only [wrMs]
 rw [show quoteB sIss.data.toList = ([34, 105, 115, 115, 34] : List UInt8) from by decide +kernel, show quoteB sJti.data.toList = ([34, 106, 116, 105, 34] : List UInt8) from by decide +kernel, show quoteB sIat.data.toList = ([34, 105, 97, 116, 34] : List UInt8) from by decide +kernel, show quoteB sAud.data.toList = ([34, 97, 117, 100, 34] : List UInt8) from by decide +kernel, show quoteB sTxn.data.toList = ([34, 116, 120, 110, 34] : List UInt8) from by decide +kernel, show quoteB sSubId.data.toList = ([34, 115, 117, 98, 95, 105, 100, 34] : List UInt8) from by decide +kernel, show quoteB sEvents.data.toList = ([34, 101, 118, 101, 110, 116, 115, 34] : List UInt8) from by decide +kernel]
 unfold tL
 simp
theorem rs_w (c : Clm) (h : c.reason ≠ ⟨#[]⟩) : wrJ (objJ (evMs c)) = ([123, 34, 114, 101, 97, 115, 111, 110, 34, 58] : List UInt8) ++ (quoteB (tL c.reason) ++ ([125] : List UInt8)) := by
 unfold evMs
 rw [if_neg (by rw [strEq_iff]; exact h)]
 simp only [objJ, wrJ, wrMs, wr_str]
 rw [show quoteB sReason.data.toList = ([34, 114, 101, 97, 115, 111, 110, 34] : List UInt8) from by decide +kernel]
 unfold tL
 simp
theorem getC_of {G : List SC} {k : Nat} {s : SC} {K : SC → Prop} (h : G[k]? = some s) (hk : K s) : getC G k K := by
 induction G generalizing k with
 | nil => simp at h
 | cons a r ih =>
  cases k with
  | zero => simp only [List.getElem?_cons_zero, Option.some.injEq] at h; subst h; exact hk
  | succ k => exact ih (by simpa using h)
abbrev tails : List SC := [.val (.string (⟨#[99, 97, 101, 112, 47, 101, 118, 101, 110, 116, 45, 116, 121, 112, 101, 47, 115, 101, 115, 115, 105, 111, 110, 45, 114, 101, 118, 111, 107, 101, 100]⟩ : ByteArray)), .val (.string (⟨#[99, 97, 101, 112, 47, 101, 118, 101, 110, 116, 45, 116, 121, 112, 101, 47, 99, 114, 101, 100, 101, 110, 116, 105, 97, 108, 45, 99, 104, 97, 110, 103, 101]⟩ : ByteArray)), .val (.string (⟨#[114, 105, 115, 99, 47, 101, 118, 101, 110, 116, 45, 116, 121, 112, 101, 47, 97, 99, 99, 111, 117, 110, 116, 45, 100, 105, 115, 97, 98, 108, 101, 100]⟩ : ByteArray)), .val (.string (⟨#[114, 105, 115, 99, 47, 101, 118, 101, 110, 116, 45, 116, 121, 112, 101, 47, 97, 99, 99, 111, 117, 110, 116, 45, 101, 110, 97, 98, 108, 101, 100]⟩ : ByteArray)), .val (.string (⟨#[99, 97, 101, 112, 47, 101, 118, 101, 110, 116, 45, 116, 121, 112, 101, 47, 116, 111, 107, 101, 110, 45, 99, 108, 97, 105, 109, 115, 45, 99, 104, 97, 110, 103, 101]⟩ : ByteArray)), .val (.string (⟨#[115, 115, 101, 47, 101, 118, 101, 110, 116, 45, 116, 121, 112, 101, 47, 118, 101, 114, 105, 102, 105, 99, 97, 116, 105, 111, 110]⟩ : ByteArray))]
theorem tail_nm {k : Int} (h : 1 ≤ k ∧ k ≤ 6) : ∃ nm : ByteArray, tails[0 + (k - 1).toNat * 1]? = some (.val (.string nm)) ∧ nm.size ≤ 40 ∧ quoteB (tL (nameK k)) = ([34, 104, 116, 116, 112, 115, 58, 47, 47, 115, 99, 104, 101, 109, 97, 115, 46, 111, 112, 101, 110, 105, 100, 46, 110, 101, 116, 47, 115, 101, 99, 101, 118, 101, 110, 116, 47] : List UInt8) ++ (nm.data.toList ++ [34]) := by
 have h6 : k = 1 ∨ k = 2 ∨ k = 3 ∨ k = 4 ∨ k = 5 ∨ k = 6 := by omega
 rcases h6 with rfl | rfl | rfl | rfl | rfl | rfl <;> exact ⟨_, rfl, by decide, by decide +kernel⟩
theorem text_ (c : Clm) (h : RightC c) (H : Hp) : CallO Tryz.prog 15 [.si (.ag (cs10 c.iss c.jti c.aud c.iat c.txn c.sub.fmt c.sub.id c.sub.own c.kind c.reason))] H [] fun e H' G' => e = .ret (pv (.string ⟨(wrJ (clJ c)).toArray⟩)) ∧ H.Le H' ∧ G' = [] := by
 have k1 : 1 ≤ c.kind ∧ c.kind ≤ 6 := h.kind
 have b1 := (word_size h.iss).1
 have b2 := (word_size h.jti).1
 have b3 := (word_size h.aud).1
 have b4 := (word_size h.txn).1
 have hsub := h.sub
 have hiat := h.iat
 have hcw := cl_w c
 have hrw := rs_w c
 have hre : c.reason.size ≤ 256 := by rcases h.reason with e | e; rw [e]; decide; exact (word_size e).1
 obtain ⟨iss, jti, aud, iat, txn, ⟨sf, si, so⟩, kind, reason⟩ := c
 obtain ⟨txt, htx⟩ : ∃ t, t = wrJ (clJ ⟨iss, jti, aud, iat, txn, ⟨sf, si, so⟩, kind, reason⟩) := ⟨_, rfl⟩
 rw [← htx] at hcw ⊢
 dsimp only at *
 refine CallO.of_body Tx.tab Tryz.func15 rfl (nt := Tryz.f15.ntmps) rfl (by kernel_rfl) ?_
 (conv => whnf)
 obtain ⟨nm, hnm, hnz, hnq⟩ := tail_nm k1
 have hs3 : (Lb.itoaB iat).size ≤ 15 := by
  obtain ⟨m, rfl⟩ : ∃ m : Nat, iat = m := ⟨iat.toNat, by omega⟩
  exact Dg.itoa_le m (by omega)
 cases hrs : strEq reason ⟨#[]⟩
 ·(conv => whnf)
  refine ⟨⟨_, Tryz.func45, rfl, by kernel_rfl⟩, CallS.use (quoteS reason (by omega) H) [] rfl rfl trivial ?_⟩
  rintro e H2 G' hle ⟨⟨q, rfl, hq, hqs⟩, rfl, rfl⟩
  (conv => whnf)
  refine ⟨add_ok (n := 100) (by decide) hqs (by decide), ?_⟩
  (conv => whnf)
  refine ⟨add_ok (add_le (n := 100) (by decide) hqs) (m := 1) (by decide) (by decide), ?_⟩
  (conv => whnf)
  have hr1 : ((⟨([123, 34, 114, 101, 97, 115, 111, 110, 34, 58] : List UInt8).toArray⟩ : ByteArray) ++ q ++ ⟨#[125]⟩).data.toList = wrJ (objJ (evMs ⟨iss, jti, aud, iat, txn, ⟨sf, si, so⟩, kind, reason⟩)) := by
   rw [hrw ((strEq_false ..).1 hrs)]
   simp only [ByteArray.data_append, Array.toList_append, hq]
   simp
  have hr2 : ((⟨([123, 34, 114, 101, 97, 115, 111, 110, 34, 58] : List UInt8).toArray⟩ : ByteArray) ++ q ++ ⟨#[125]⟩).size ≤ 6201 := Nat.le_trans (add_le (add_le (n := 100) (by decide) hqs) (m := 1) (by decide)) (by decide)
  generalize (⟨([123, 34, 114, 101, 97, 115, 111, 110, 34, 58] : List UInt8).toArray⟩ : ByteArray) ++ q ++ ⟨#[125]⟩ = rs at hr1 hr2 ⊢
  refine WS.draw Tx.tab Rf.mixed (.take 0 (.take 1 (.take 5 (.take 6 (.take 10 (.take 11 (.take 15 (.take 16 (.take 20 (.take 21 (.take 25 (.take 29 (.take 30 (.take 31 (.take 32 (.take 33 (.take 36 (.alt 2 (.take 3 (.take 4 (.alt 7 (.take 8 (.take 9 (.alt 12 (.take 13 (.take 14 (.alt 17 (.take 18 (.take 19 (.alt 22 (.take 23 (.take 24 (.alt 26 (.take 27 (.take 28 (.take 34 (.take 35 (.take 37 (.take 38 (.take 39 .done))))))) .no))) .no))) .no))) .no))) .no))) .no)))))))))))))))))) (by kernel_rfl) [] ?_
  (conv => whnf)
  rw [wrap64 (x := kind - 1) (by omega) (by omega)]
  refine ⟨⟨by omega, by omega⟩, ?_⟩
  (conv => whnf)
  refine getC_of hnm ?_
  (conv => whnf)
  refine And.intro ?_ ?_ <;> (conv => whnf)
  rotate_left
  ·exact trivial
  refine ⟨⟨_, Tryz.func45, rfl, by kernel_rfl⟩, CallS.use (quoteS iss (by omega) _) [] rfl rfl trivial ?_⟩
  rintro e Hx1 G' hlex1 ⟨⟨q1, rfl, hq1, hs1⟩, rfl, rfl⟩
  (conv => whnf)
  refine ⟨⟨rfl, rfl, trivial⟩, ?_⟩
  (conv => whnf)
  refine ⟨add_ok (n := 100) (by decide) hs1 (by decide), ?_⟩
  (conv => whnf)
  refine ⟨add_ok (add_le (n := 100) (by decide) hs1) (m := 100) (by decide) (by decide), ?_⟩
  (conv => whnf)
  refine And.intro ?_ ?_ <;> (conv => whnf)
  rotate_left
  ·exact trivial
  refine ⟨⟨_, Tryz.func45, rfl, by kernel_rfl⟩, CallS.use (quoteS jti (by omega) _) [] rfl rfl trivial ?_⟩
  rintro e Hx2 G' hlex2 ⟨⟨q2, rfl, hq2, hs2⟩, rfl, rfl⟩
  (conv => whnf)
  refine ⟨⟨rfl, rfl, trivial⟩, ?_⟩
  (conv => whnf)
  refine ⟨add_ok (add_le (add_le (n := 100) (by decide) hs1) (m := 100) (by decide)) hs2 (by decide), ?_⟩
  (conv => whnf)
  refine ⟨add_ok (add_le (add_le (add_le (n := 100) (by decide) hs1) (m := 100) (by decide)) hs2) (m := 100) (by decide) (by decide), ?_⟩
  (conv => whnf)
  refine And.intro ?_ ?_ <;> (conv => whnf)
  rotate_left
  ·exact trivial
  refine ⟨⟨_, Tryz.func46, rfl, by kernel_rfl⟩, CallS.use (digits13 iat hiat.1 hiat.2 _) [] rfl rfl trivial ?_⟩
  rintro e Hx3 G' hlex3 ⟨rfl, rfl⟩
  (conv => whnf)
  refine ⟨⟨rfl, rfl, trivial⟩, ?_⟩
  (conv => whnf)
  refine ⟨add_ok (add_le (add_le (add_le (add_le (n := 100) (by decide) hs1) (m := 100) (by decide)) hs2) (m := 100) (by decide)) hs3 (by decide), ?_⟩
  (conv => whnf)
  refine ⟨add_ok (add_le (add_le (add_le (add_le (add_le (n := 100) (by decide) hs1) (m := 100) (by decide)) hs2) (m := 100) (by decide)) hs3) (m := 100) (by decide) (by decide), ?_⟩
  (conv => whnf)
  refine And.intro ?_ ?_ <;> (conv => whnf)
  rotate_left
  ·exact trivial
  refine ⟨⟨_, Tryz.func45, rfl, by kernel_rfl⟩, CallS.use (quoteS aud (by omega) _) [] rfl rfl trivial ?_⟩
  rintro e Hx4 G' hlex4 ⟨⟨q4, rfl, hq4, hs4⟩, rfl, rfl⟩
  (conv => whnf)
  refine ⟨⟨rfl, rfl, trivial⟩, ?_⟩
  (conv => whnf)
  refine ⟨add_ok (add_le (add_le (add_le (add_le (add_le (add_le (n := 100) (by decide) hs1) (m := 100) (by decide)) hs2) (m := 100) (by decide)) hs3) (m := 100) (by decide)) hs4 (by decide), ?_⟩
  (conv => whnf)
  refine ⟨add_ok (add_le (add_le (add_le (add_le (add_le (add_le (add_le (n := 100) (by decide) hs1) (m := 100) (by decide)) hs2) (m := 100) (by decide)) hs3) (m := 100) (by decide)) hs4) (m := 100) (by decide) (by decide), ?_⟩
  (conv => whnf)
  refine And.intro ?_ ?_ <;> (conv => whnf)
  rotate_left
  ·exact trivial
  refine ⟨⟨_, Tryz.func45, rfl, by kernel_rfl⟩, CallS.use (quoteS txn (by omega) _) [] rfl rfl trivial ?_⟩
  rintro e Hx5 G' hlex5 ⟨⟨q5, rfl, hq5, hs5⟩, rfl, rfl⟩
  (conv => whnf)
  refine ⟨⟨rfl, rfl, trivial⟩, ?_⟩
  (conv => whnf)
  refine ⟨add_ok (add_le (add_le (add_le (add_le (add_le (add_le (add_le (add_le (n := 100) (by decide) hs1) (m := 100) (by decide)) hs2) (m := 100) (by decide)) hs3) (m := 100) (by decide)) hs4) (m := 100) (by decide)) hs5 (by decide), ?_⟩
  (conv => whnf)
  refine ⟨add_ok (add_le (add_le (add_le (add_le (add_le (add_le (add_le (add_le (add_le (n := 100) (by decide) hs1) (m := 100) (by decide)) hs2) (m := 100) (by decide)) hs3) (m := 100) (by decide)) hs4) (m := 100) (by decide)) hs5) (m := 100) (by decide) (by decide), ?_⟩
  (conv => whnf)
  refine And.intro ?_ ?_ <;> (conv => whnf)
  rotate_left
  ·exact trivial
  refine ⟨⟨_, Tryz.func47, rfl, by kernel_rfl⟩, CallS.use (about iss jti aud iat txn ⟨sf, si, so⟩ kind reason hsub _) [] rfl rfl trivial ?_⟩
  rintro e Hx6 G' hlex6 ⟨⟨q6, rfl, hq6, hs6⟩, hle6, rfl⟩
  (conv => whnf)
  refine ⟨⟨rfl, rfl, trivial⟩, ?_⟩
  (conv => whnf)
  refine ⟨add_ok (add_le (add_le (add_le (add_le (add_le (add_le (add_le (add_le (add_le (add_le (n := 100) (by decide) hs1) (m := 100) (by decide)) hs2) (m := 100) (by decide)) hs3) (m := 100) (by decide)) hs4) (m := 100) (by decide)) hs5) (m := 100) (by decide)) hs6 (by decide), ?_⟩
  (conv => whnf)
  refine ⟨add_ok (add_le (add_le (add_le (add_le (add_le (add_le (add_le (add_le (add_le (add_le (add_le (n := 100) (by decide) hs1) (m := 100) (by decide)) hs2) (m := 100) (by decide)) hs3) (m := 100) (by decide)) hs4) (m := 100) (by decide)) hs5) (m := 100) (by decide)) hs6) (m := 100) (by decide) (by decide), ?_⟩
  (conv => whnf)
  refine ⟨add_ok (add_le (add_le (add_le (add_le (add_le (add_le (add_le (add_le (add_le (add_le (add_le (add_le (n := 100) (by decide) hs1) (m := 100) (by decide)) hs2) (m := 100) (by decide)) hs3) (m := 100) (by decide)) hs4) (m := 100) (by decide)) hs5) (m := 100) (by decide)) hs6) (m := 100) (by decide)) hnz (by decide), ?_⟩
  (conv => whnf)
  refine ⟨add_ok (add_le (add_le (add_le (add_le (add_le (add_le (add_le (add_le (add_le (add_le (add_le (add_le (add_le (n := 100) (by decide) hs1) (m := 100) (by decide)) hs2) (m := 100) (by decide)) hs3) (m := 100) (by decide)) hs4) (m := 100) (by decide)) hs5) (m := 100) (by decide)) hs6) (m := 100) (by decide)) hnz) (m := 100) (by decide) (by decide), ?_⟩
  (conv => whnf)
  refine ⟨add_ok (add_le (add_le (add_le (add_le (add_le (add_le (add_le (add_le (add_le (add_le (add_le (add_le (add_le (add_le (n := 100) (by decide) hs1) (m := 100) (by decide)) hs2) (m := 100) (by decide)) hs3) (m := 100) (by decide)) hs4) (m := 100) (by decide)) hs5) (m := 100) (by decide)) hs6) (m := 100) (by decide)) hnz) (m := 100) (by decide)) hr2 (by decide), ?_⟩
  (conv => whnf)
  refine ⟨add_ok (add_le (add_le (add_le (add_le (add_le (add_le (add_le (add_le (add_le (add_le (add_le (add_le (add_le (add_le (add_le (n := 100) (by decide) hs1) (m := 100) (by decide)) hs2) (m := 100) (by decide)) hs3) (m := 100) (by decide)) hs4) (m := 100) (by decide)) hs5) (m := 100) (by decide)) hs6) (m := 100) (by decide)) hnz) (m := 100) (by decide)) hr2) (m := 100) (by decide) (by decide), ?_⟩
  (conv => whnf)
  refine ⟨?_, ((((hlex1.trans hlex2).trans hlex3).trans hlex4).trans hlex5).trans hlex6, rfl⟩
  refine congrArg (fun s : ByteArray => SE.ret (pv (.string s))) ?_
  apply ByteArray.ext
  refine Array.toList_inj.1 ?_
  rw [hcw, hnq, ← hr1, ← hq1, ← hq2, ← hq4, ← hq5, ← hq6]
  simp only [ByteArray.data_append, Array.toList_append, List.append_assoc]
  simp
 ·(conv => whnf)
  have hr1 : (⟨#[123, 125]⟩ : ByteArray).data.toList = wrJ (objJ (evMs ⟨iss, jti, aud, iat, txn, ⟨sf, si, so⟩, kind, reason⟩)) := by
   unfold evMs
   rw [if_pos hrs]
   rfl
  have hr2 : (⟨#[123, 125]⟩ : ByteArray).size ≤ 6201 := by decide
  generalize (⟨#[123, 125]⟩ : ByteArray) = rs at hr1 hr2 ⊢
  refine WS.draw Tx.tab Rf.mixed (.take 0 (.take 1 (.take 5 (.take 6 (.take 10 (.take 11 (.take 15 (.take 16 (.take 20 (.take 21 (.take 25 (.take 29 (.take 30 (.take 31 (.take 32 (.take 33 (.take 36 (.alt 2 (.take 3 (.take 4 (.alt 7 (.take 8 (.take 9 (.alt 12 (.take 13 (.take 14 (.alt 17 (.take 18 (.take 19 (.alt 22 (.take 23 (.take 24 (.alt 26 (.take 27 (.take 28 (.take 34 (.take 35 (.take 37 (.take 38 (.take 39 .done))))))) .no))) .no))) .no))) .no))) .no))) .no)))))))))))))))))) (by kernel_rfl) [] ?_
  (conv => whnf)
  rw [wrap64 (x := kind - 1) (by omega) (by omega)]
  refine ⟨⟨by omega, by omega⟩, ?_⟩
  (conv => whnf)
  refine getC_of hnm ?_
  (conv => whnf)
  refine And.intro ?_ ?_ <;> (conv => whnf)
  rotate_left
  ·exact trivial
  refine ⟨⟨_, Tryz.func45, rfl, by kernel_rfl⟩, CallS.use (quoteS iss (by omega) _) [] rfl rfl trivial ?_⟩
  rintro e Hx1 G' hlex1 ⟨⟨q1, rfl, hq1, hs1⟩, rfl, rfl⟩
  (conv => whnf)
  refine ⟨⟨rfl, rfl, trivial⟩, ?_⟩
  (conv => whnf)
  refine ⟨add_ok (n := 100) (by decide) hs1 (by decide), ?_⟩
  (conv => whnf)
  refine ⟨add_ok (add_le (n := 100) (by decide) hs1) (m := 100) (by decide) (by decide), ?_⟩
  (conv => whnf)
  refine And.intro ?_ ?_ <;> (conv => whnf)
  rotate_left
  ·exact trivial
  refine ⟨⟨_, Tryz.func45, rfl, by kernel_rfl⟩, CallS.use (quoteS jti (by omega) _) [] rfl rfl trivial ?_⟩
  rintro e Hx2 G' hlex2 ⟨⟨q2, rfl, hq2, hs2⟩, rfl, rfl⟩
  (conv => whnf)
  refine ⟨⟨rfl, rfl, trivial⟩, ?_⟩
  (conv => whnf)
  refine ⟨add_ok (add_le (add_le (n := 100) (by decide) hs1) (m := 100) (by decide)) hs2 (by decide), ?_⟩
  (conv => whnf)
  refine ⟨add_ok (add_le (add_le (add_le (n := 100) (by decide) hs1) (m := 100) (by decide)) hs2) (m := 100) (by decide) (by decide), ?_⟩
  (conv => whnf)
  refine And.intro ?_ ?_ <;> (conv => whnf)
  rotate_left
  ·exact trivial
  refine ⟨⟨_, Tryz.func46, rfl, by kernel_rfl⟩, CallS.use (digits13 iat hiat.1 hiat.2 _) [] rfl rfl trivial ?_⟩
  rintro e Hx3 G' hlex3 ⟨rfl, rfl⟩
  (conv => whnf)
  refine ⟨⟨rfl, rfl, trivial⟩, ?_⟩
  (conv => whnf)
  refine ⟨add_ok (add_le (add_le (add_le (add_le (n := 100) (by decide) hs1) (m := 100) (by decide)) hs2) (m := 100) (by decide)) hs3 (by decide), ?_⟩
  (conv => whnf)
  refine ⟨add_ok (add_le (add_le (add_le (add_le (add_le (n := 100) (by decide) hs1) (m := 100) (by decide)) hs2) (m := 100) (by decide)) hs3) (m := 100) (by decide) (by decide), ?_⟩
  (conv => whnf)
  refine And.intro ?_ ?_ <;> (conv => whnf)
  rotate_left
  ·exact trivial
  refine ⟨⟨_, Tryz.func45, rfl, by kernel_rfl⟩, CallS.use (quoteS aud (by omega) _) [] rfl rfl trivial ?_⟩
  rintro e Hx4 G' hlex4 ⟨⟨q4, rfl, hq4, hs4⟩, rfl, rfl⟩
  (conv => whnf)
  refine ⟨⟨rfl, rfl, trivial⟩, ?_⟩
  (conv => whnf)
  refine ⟨add_ok (add_le (add_le (add_le (add_le (add_le (add_le (n := 100) (by decide) hs1) (m := 100) (by decide)) hs2) (m := 100) (by decide)) hs3) (m := 100) (by decide)) hs4 (by decide), ?_⟩
  (conv => whnf)
  refine ⟨add_ok (add_le (add_le (add_le (add_le (add_le (add_le (add_le (n := 100) (by decide) hs1) (m := 100) (by decide)) hs2) (m := 100) (by decide)) hs3) (m := 100) (by decide)) hs4) (m := 100) (by decide) (by decide), ?_⟩
  (conv => whnf)
  refine And.intro ?_ ?_ <;> (conv => whnf)
  rotate_left
  ·exact trivial
  refine ⟨⟨_, Tryz.func45, rfl, by kernel_rfl⟩, CallS.use (quoteS txn (by omega) _) [] rfl rfl trivial ?_⟩
  rintro e Hx5 G' hlex5 ⟨⟨q5, rfl, hq5, hs5⟩, rfl, rfl⟩
  (conv => whnf)
  refine ⟨⟨rfl, rfl, trivial⟩, ?_⟩
  (conv => whnf)
  refine ⟨add_ok (add_le (add_le (add_le (add_le (add_le (add_le (add_le (add_le (n := 100) (by decide) hs1) (m := 100) (by decide)) hs2) (m := 100) (by decide)) hs3) (m := 100) (by decide)) hs4) (m := 100) (by decide)) hs5 (by decide), ?_⟩
  (conv => whnf)
  refine ⟨add_ok (add_le (add_le (add_le (add_le (add_le (add_le (add_le (add_le (add_le (n := 100) (by decide) hs1) (m := 100) (by decide)) hs2) (m := 100) (by decide)) hs3) (m := 100) (by decide)) hs4) (m := 100) (by decide)) hs5) (m := 100) (by decide) (by decide), ?_⟩
  (conv => whnf)
  refine And.intro ?_ ?_ <;> (conv => whnf)
  rotate_left
  ·exact trivial
  refine ⟨⟨_, Tryz.func47, rfl, by kernel_rfl⟩, CallS.use (about iss jti aud iat txn ⟨sf, si, so⟩ kind reason hsub _) [] rfl rfl trivial ?_⟩
  rintro e Hx6 G' hlex6 ⟨⟨q6, rfl, hq6, hs6⟩, hle6, rfl⟩
  (conv => whnf)
  refine ⟨⟨rfl, rfl, trivial⟩, ?_⟩
  (conv => whnf)
  refine ⟨add_ok (add_le (add_le (add_le (add_le (add_le (add_le (add_le (add_le (add_le (add_le (n := 100) (by decide) hs1) (m := 100) (by decide)) hs2) (m := 100) (by decide)) hs3) (m := 100) (by decide)) hs4) (m := 100) (by decide)) hs5) (m := 100) (by decide)) hs6 (by decide), ?_⟩
  (conv => whnf)
  refine ⟨add_ok (add_le (add_le (add_le (add_le (add_le (add_le (add_le (add_le (add_le (add_le (add_le (n := 100) (by decide) hs1) (m := 100) (by decide)) hs2) (m := 100) (by decide)) hs3) (m := 100) (by decide)) hs4) (m := 100) (by decide)) hs5) (m := 100) (by decide)) hs6) (m := 100) (by decide) (by decide), ?_⟩
  (conv => whnf)
  refine ⟨add_ok (add_le (add_le (add_le (add_le (add_le (add_le (add_le (add_le (add_le (add_le (add_le (add_le (n := 100) (by decide) hs1) (m := 100) (by decide)) hs2) (m := 100) (by decide)) hs3) (m := 100) (by decide)) hs4) (m := 100) (by decide)) hs5) (m := 100) (by decide)) hs6) (m := 100) (by decide)) hnz (by decide), ?_⟩
  (conv => whnf)
  refine ⟨add_ok (add_le (add_le (add_le (add_le (add_le (add_le (add_le (add_le (add_le (add_le (add_le (add_le (add_le (n := 100) (by decide) hs1) (m := 100) (by decide)) hs2) (m := 100) (by decide)) hs3) (m := 100) (by decide)) hs4) (m := 100) (by decide)) hs5) (m := 100) (by decide)) hs6) (m := 100) (by decide)) hnz) (m := 100) (by decide) (by decide), ?_⟩
  (conv => whnf)
  refine ⟨add_ok (add_le (add_le (add_le (add_le (add_le (add_le (add_le (add_le (add_le (add_le (add_le (add_le (add_le (add_le (n := 100) (by decide) hs1) (m := 100) (by decide)) hs2) (m := 100) (by decide)) hs3) (m := 100) (by decide)) hs4) (m := 100) (by decide)) hs5) (m := 100) (by decide)) hs6) (m := 100) (by decide)) hnz) (m := 100) (by decide)) hr2 (by decide), ?_⟩
  (conv => whnf)
  refine ⟨add_ok (add_le (add_le (add_le (add_le (add_le (add_le (add_le (add_le (add_le (add_le (add_le (add_le (add_le (add_le (add_le (n := 100) (by decide) hs1) (m := 100) (by decide)) hs2) (m := 100) (by decide)) hs3) (m := 100) (by decide)) hs4) (m := 100) (by decide)) hs5) (m := 100) (by decide)) hs6) (m := 100) (by decide)) hnz) (m := 100) (by decide)) hr2) (m := 100) (by decide) (by decide), ?_⟩
  (conv => whnf)
  refine ⟨?_, ((((hlex1.trans hlex2).trans hlex3).trans hlex4).trans hlex5).trans hlex6, rfl⟩
  refine congrArg (fun s : ByteArray => SE.ret (pv (.string s))) ?_
  apply ByteArray.ext
  refine Array.toList_inj.1 ?_
  rw [hcw, hnq, ← hr1, ← hq1, ← hq2, ← hq4, ← hq5, ← hq6]
  simp only [ByteArray.data_append, Array.toList_append, List.append_assoc]
  simp
end Go.Kx.Rf
namespace Go.Kx.L13
open Go.Proofs Go.Kx Go.RowKit Go.Kx.Js Go.Kx.Pr Go.Kx.Rt Go.Kx.Ob Go.Kx.Wo Go.Kx.Cl Go.Kx.Pa Go.Kx.Su Go.Kx.Se Go.Kx.Jw
set_option maxRecDepth 20000
set_option linter.unusedSimpArgs false
theorem wf64 {n : Int} (h0 : -9223372036854775808 ≤ n) (h1 : n ≤ 9223372036854775807) : (Lit.int .i64 n).wf = true := by
 have e0 : IntKind.i64.min = -9223372036854775808 := by decide
 have e1 : IntKind.i64.max = 9223372036854775807 := by decide
 simp [Lit.wf, e0, e1, h0, h1]
theorem fit_right {c : Clm} (h : RightC c) : FitC c := by
 have hm : 256 ≤ maxLen := by decide
 have w : ∀ {s : ByteArray}, Wo.wordP 256 s = true → s.size ≤ maxLen := fun hw => Nat.le_trans (word_size hw).1 hm
 have hs : c.sub.fmt.size ≤ maxLen ∧ c.sub.id.size ≤ maxLen ∧ c.sub.own.size ≤ maxLen := by
  rcases sub_cases h.sub with ⟨id, e, h1⟩ | ⟨id, e, h1, h2⟩ | ⟨id, own, e, h1, h2⟩
  ·rw [e]; exact ⟨(by decide : sOpaque.size ≤ maxLen), w h1, Nat.zero_le _⟩
  ·rw [e]; exact ⟨(by decide : sEmail.size ≤ maxLen), w h1, Nat.zero_le _⟩
  ·rw [e]; exact ⟨(by decide : sIssSub.size ≤ maxLen), w h1, w h2⟩
 exact ⟨w h.iss, w h.jti, w h.aud, wf64 (by have := h.iat; omega) (by have := h.iat; omega), w h.txn, hs.1, hs.2.1, hs.2.2, wf64 (by have := h.kind; omega) (by have := h.kind; omega), Nat.le_trans (reason_size h) hm⟩
theorem fit0 : FitC clm0 := ⟨by decide, by decide, by decide, by decide, by decide, by decide, by decide, by decide, by decide, by decide⟩
theorem read_right {s : ByteArray} {key : List UInt8} {c : Clm} (h : readP s key = .ok c) : RightC c := by
 unfold readP at h
 split at h
 ·cases h
 split at h
 ·cases h
 split at h
 ·cases h
 split at h
 ·cases h
 split at h
 ·cases h
 ·rename_i hc
  injection h with h
  subst h
  exact (of_some hc).1
def clX : Except Int Clm → Clm
 | .ok c => c
 | .error _ => clm0
def nX : Except Int Clm → Int
 | .ok _ => 0
 | .error x => x
theorem rcl {X : Except Int Clm} {e : SE} (h : RCl X e) : e = .ret (.tu [.ag (csC (clX X)), .ce (.val (.int .i64 (nX X)))]) := by
 cases X with
 | ok c => exact h
 | error x => exact h
theorem fitX {s : ByteArray} {key : List UInt8} : FitC (clX (readP s key)) := by
 cases h : readP s key with
 | ok c => exact fit_right (read_right h)
 | error x => exact fit0
theorem eqClm {o : Oper} {x y : Operand} (ho : o.op = .binOp .eql 25 x y 25) {F : Fr} {H : Hp} {G : List SB} {K : SV → Prop} (c d : Clm)
  (hx : evX x F fun sv => sv = .si (.ag ((cellsC c).map SC.val))) (hy : evX y F fun sv => sv = .si (.ag ((cellsC d).map SC.val))) (fc : FitC c) (fd : FitC d) (h : ∀ r : Bool, (r = true ↔ c = d) → K (pv (.bool r))) : QO Tryz.prog o F H G K :=
 QO.agg ho (cellsC c) (cellsC d) ksC hx hy gC kC sC (fC _) (fC _) fc.lits fd.lits fun r hr => .inl ⟨rfl, h r (hr.trans cellsC_inj)⟩
end Go.Kx.L13
namespace Go.Kx.L13
open Go.Proofs Go.Kx Go.RowKit Go.Kx.Js Go.Kx.Pr Go.Kx.Rt Go.Kx.Ob Go.Kx.Wo Go.Kx.Cl Go.Kx.Su Go.Kx.Se Go.Kx.Jw
set_option maxRecDepth 20000
set_option linter.unusedSimpArgs false
namespace Li
def T : Tab := [(9, { k := TK.string, agg := false, size := 1, bytes := 16, zero := [Z.s] }), (3, { k := TK.int IntKind.i64, agg := false, size := 1, bytes := 8, zero := [Z.i IntKind.i64] }), (25, { k := TK.st [(0, 9, 1), (1, 9, 1), (2, 9, 1), (3, 3, 1), (4, 9, 1), (5, 23, 3), (8, 3, 1), (9, 9, 1)], agg := true, size := 10, bytes := 144, zero := [Z.s, Z.s, Z.s, Z.i IntKind.i64, Z.s, Z.s, Z.s, Z.s, Z.i IntKind.i64, Z.s] }), (28, { k := TK.st [(0, 9, 1), (1, 9, 1), (2, 9, 1), (3, 3, 1), (4, 9, 1), (5, 9, 1), (6, 9, 1), (7, 9, 1), (8, 3, 1), (9, 9, 1)], agg := true, size := 10, bytes := 144, zero := [Z.s, Z.s, Z.s, Z.i IntKind.i64, Z.s, Z.s, Z.s, Z.s, Z.i IntKind.i64, Z.s] }), (23, { k := TK.st [(0, 9, 1), (1, 9, 1), (2, 9, 1)], agg := true, size := 3, bytes := 48, zero := [Z.s, Z.s, Z.s] }), (4, { k := TK.bool, agg := false, size := 1, bytes := 1, zero := [Z.b] }), (62, { k := TK.slice 9, agg := false, size := 1, bytes := 24, zero := [Z.sl] })]
set_option maxRecDepth 100000 in
theorem tab : TabOk Tryz.prog T := tabOk_mk (ts := [9, 3, 25, 28, 23, 4, 62]) (by kernel_rfl)
end Li
def szs (c : Clm) : List ByteArray := [c.jti, c.aud, c.txn, c.sub.fmt, c.sub.id, c.sub.own, c.reason]
theorem listed0 (c : Clm) (H : Hp) : CallO Tryz.prog 9 [agC c] H [] fun e H' G' => (∃ b : Bool, e = .ret (.tu [.ag (csC c), .ce (.val (.bool b))]) ∧ (b = true → c.iss.size ≤ 300 ∧ ∀ s ∈ szs c, s.size ≤ 300)) ∧ H.Le H' ∧ G' = [] := by
 refine CallO.of_body Li.tab Tryz.func9 rfl (nt := Tryz.f9.ntmps) rfl (by kernel_rfl) ?_
 (conv => whnf)
 refine ⟨by decide, .inl ?_⟩
 intro g H2 hle hrd
 have hv : Pa.VAt H2 (some { block := g, off := 0 }) 7 ((szs c).map Value.string) := ⟨rfl, fun e => (nomatch e), fun a e => by injection e with e; subst e; exact hrd⟩
 (conv => whnf)
 refine WS.loop (fun k F H3 G => ∃ (j : Nat) (m : Int), j ≤ 7 ∧ (c.iss.size : Int) ≤ m ∧ (∀ i s, i < j → (szs c)[i]? = some s → (s.size : Int) ≤ m) ∧ k = 7 - j ∧ F = [(1, .si (.ce (.ptr 0 0))), (2, .si (.ce (.ptr 1 0))), (4, pv (.int .i64 m)), (27, pv (.slice (some { block := g, off := 0 }) 7 7)), (28, pv (.int .i64 7)), (29, pv (.int .i64 j))] ∧ H2.Le H3 ∧ G = [.box 25 (csC c), .box 28 (csC clm0)]) 8 ?_ ?_
 ·refine ⟨7, by omega, _, _, [0, 1], ⟨0, c.iss.size, by omega, Int.le_refl _, fun i s hi => absurd hi (by omega), rfl, rfl, .refl _, rfl⟩, ?_⟩
  exact ⟨rfl, ⟨rfl, rfl, trivial⟩, rfl, rfl, rfl, rfl, rfl, rfl, trivial⟩
 rintro k F H3 G hle3 ⟨j, m, hj, hm, hs, rfl, rfl, hle4, rfl⟩
 refine codeL.go Li.tab ?_
 (conv => whnf)
 refine br.of (fun h1 => ?_) (fun h1 => ?_) <;> (conv => whnf)
 ·have h1 := of_decide_eq_true h1
  obtain ⟨s, hsj⟩ : ∃ s, (szs c)[j]? = some s := ⟨_, List.getElem?_eq_getElem (by show j < 7; omega)⟩
  refine ⟨⟨by omega, by omega⟩, hv.addr (by decide), ?_⟩
  (conv => whnf)
  refine ⟨_, (hv.mono hle4).get (show ((szs c).map Value.string)[j]? = some (.string s) by rw [List.getElem?_map, hsj]; rfl) (by show (j : Int).toNat * 1 = j; omega), ?_⟩
  (conv => whnf)
  rw [wrap64 (x := (j : Int) + 1) (by omega) (by omega)]
  refine ⟨7 - (j + 1), by omega, _, _, [0, 1], ⟨j + 1, maxB m s.size, by omega, ?_, fun i u hi hu => ?_, rfl, rfl, hle4, rfl⟩, ?_⟩
  ·unfold maxB; split <;> omega
  ·rcases Nat.lt_or_ge i j with hij | hij
   ·have := hs i u hij hu
    unfold maxB; split <;> omega
   ·obtain rfl : i = j := by omega
    rw [hsj] at hu
    injection hu with hu
    subst hu
    unfold maxB; split <;> omega
  ·exact ⟨rfl, ⟨rfl, rfl, trivial⟩, rfl, rfl, rfl, rfl, rfl, rfl, trivial⟩
 ·have h1 := of_decide_eq_false h1
  obtain rfl : j = 7 := by omega
  refine ⟨⟨_, rfl, fun hb => ?_⟩, hle.trans hle4, rfl⟩
  have hb : m ≤ 300 := of_decide_eq_true hb
  refine ⟨by omega, fun s hs' => ?_⟩
  obtain ⟨i, hi, rfl⟩ := List.getElem_of_mem hs'
  have := hs i _ hi (List.getElem?_eq_getElem hi)
  omega
end Go.Kx.L13
namespace Go.Kx.L13
open Go.Proofs Go.Kx Go.RowKit Go.Kx.Js Go.Kx.Pr Go.Kx.Rt Go.Kx.Ob Go.Kx.Wo Go.Kx.Cl Go.Kx.Su Go.Kx.Se Go.Kx.Jw
set_option maxRecDepth 20000
set_option linter.unusedSimpArgs false
theorem listed_fit {c : Clm} (h : c.iss.size ≤ 300 ∧ ∀ s ∈ szs c, s.size ≤ 300) (hn : (Lit.int .i64 c.iat).wf = true) (hk : (Lit.int .i64 c.kind).wf = true) : Rf.FitT c ∧ FitC c := by
 obtain ⟨h1, h2⟩ := h
 have w : ∀ s ∈ szs c, s.size ≤ 300 := h2
 have a1 := w c.jti (by simp [szs])
 have a2 := w c.aud (by simp [szs])
 have a3 := w c.txn (by simp [szs])
 have a4 := w c.sub.fmt (by simp [szs])
 have a5 := w c.sub.id (by simp [szs])
 have a6 := w c.sub.own (by simp [szs])
 have a7 := w c.reason (by simp [szs])
 have m : 300 ≤ maxLen := by decide
 exact ⟨⟨by omega, by omega, by omega, by omega, by omega, by omega, by omega, by omega⟩, ⟨by omega, by omega, by omega, hn, by omega, by omega, by omega, by omega, hk, by omega⟩⟩
theorem kind_wf {k : Int} (h : (Lit.int .i64 k).wf = true) : -9223372036854775808 ≤ k ∧ k ≤ 9223372036854775807 := by
 have h1 : IntKind.i64.min ≤ k ∧ k ≤ IntKind.i64.max := by simpa [Lit.wf] using h
 rwa [show IntKind.i64.min = -9223372036854775808 by decide, show IntKind.i64.max = 9223372036854775807 by decide] at h1
end Go.Kx.L13
namespace Go.Kx.L13
open Go.Proofs Go.Kx Go.RowKit Go.Kx.Js Go.Kx.Pr Go.Kx.Rt Go.Kx.Ob Go.Kx.Wo Go.Kx.Cl Go.Kx.Su Go.Kx.Se Go.Kx.Jw
set_option maxRecDepth 20000
set_option linter.unusedSimpArgs false
theorem of_pl {j : J} {c : Clm} (hp : Ro.Pl 4 j) (h : ofP j = some c) : j = clJ c := by
 obtain ⟨hr, hs⟩ := of_some h
 unfold sameP at hs
 simp only [Bool.and_eq_true, beq_iff_eq] at hs
 have h1 := cl_parse hr
 have h2 := Ro.parse_read hp (by decide) (by decide) (by rw [← hs.2]; exact cl_wrl hr) (by rw [← hs.2]; exact cl_told hr)
 rw [← hs.2] at h2
 have := h1.symm.trans h2
 injection this with this _
 exact this.symm
theorem clMs_names (c : Clm) : (clMs c).map (·.1) = [sIss, sJti, sIat, sAud, sTxn, sSubId, sEvents] := rfl
theorem clMs_len (c : Clm) : (clMs c).length = 7 := rfl
theorem ms_pl {c : Clm} (h : RightC c) {m : ByteArray × J} (hm : m ∈ clMs c) : Ro.Pl 3 m.2 := by
 have hp := cl_pl h
 unfold clJ objJ at hp
 cases hp with
 | obj ms h1 h2 =>
  obtain ⟨i, hi, rfl⟩ := List.getElem_of_mem hm
  exact h1 i _ _ (List.getElem?_eq_getElem hi)
theorem obj_none {ms : List (ByteArray × J)} (hm : ∀ m ∈ ms, Ro.Pl 3 m.2) (hd : (ms.map (·.1)).Nodup) (hn : ms.map (·.1) ≠ [sIss, sJti, sIat, sAud, sTxn, sSubId, sEvents]) : ofP (objJ ms) = none := by
 cases ho : ofP (objJ ms) with
 | none => rfl
 | some c' =>
  have hp : Ro.Pl 4 (objJ ms) := .obj ms (fun i s j e => hm (s, j) (List.mem_of_getElem? e)) hd
  have := of_pl hp ho
  unfold clJ objJ at this
  injection this with _ _ _ _ this
  exact absurd (by rw [this]; exact clMs_names c') hn
theorem mem_set {α : Type} {l : List α} {i : Nat} {x y : α} (h : y ∈ l.set i x) (hx : x ∈ l) : y ∈ l := by
 rcases List.mem_or_eq_of_mem_set h with h | rfl
 ·exact h
 ·exact hx
def turn {α : Type} (l : List α) (a b : Nat) : List α := match l[a]?, l[b]? with
 | some x, some y => (l.set a y).set b x
 | _, _ => l
theorem turn_same {α : Type} {l : List α} (a : Nat) : turn l a a = l := by
 unfold turn
 split
 ·rename_i x y h1 h2
  rw [h1] at h2
  injection h2 with h2
  subst h2
  rw [List.set_set]
  apply List.ext_getElem?
  intro i
  rw [List.getElem?_set]
  split
  ·rename_i h; subst h
   split
   ·exact h1.symm
   ·rename_i h3; rw [List.getElem?_eq_none (by omega)]
  ·rfl
 ·rfl
theorem turn_map {α β : Type} (f : α → β) (l : List α) (a b : Nat) : (turn l a b).map f = turn (l.map f) a b := by
 unfold turn
 rw [List.getElem?_map, List.getElem?_map]
 cases l[a]? <;> cases l[b]? <;> simp [List.map_set]
theorem turn_none {c : Clm} (h : RightC c) {a b : Nat} (ha : a ≤ 6) (hb : b ≤ 6) (hab : a ≠ b) : ofP (objJ (turn (clMs c) a b)) = none := by
 have hn : ∀ x y : Fin 7, x ≠ y → (turn [sIss, sJti, sIat, sAud, sTxn, sSubId, sEvents] x.val y.val).Nodup ∧ turn [sIss, sJti, sIat, sAud, sTxn, sSubId, sEvents] x.val y.val ≠ [sIss, sJti, sIat, sAud, sTxn, sSubId, sEvents] := by decide +kernel
 obtain ⟨h1, h2⟩ := hn ⟨a, by omega⟩ ⟨b, by omega⟩ (fun e => hab (by injection e))
 refine obj_none (fun m hm => ?_) (by rw [turn_map, clMs_names]; exact h1) (by rw [turn_map, clMs_names]; exact h2)
 unfold turn at hm
 split at hm
 ·rename_i x y e1 e2
  have hx := List.mem_of_getElem? e1
  have hy := List.mem_of_getElem? e2
  rcases List.mem_or_eq_of_mem_set hm with hm | rfl
  ·exact ms_pl h (mem_set hm hy)
  ·exact ms_pl h hx
 ·exact ms_pl h hm
theorem less_none {c : Clm} (h : RightC c) {d : Nat} (hd : d ≤ 6) : ofP (objJ ((clMs c).take d ++ (clMs c).drop (d + 1))) = none := by
 have hn : ∀ x : Fin 7, ([sIss, sJti, sIat, sAud, sTxn, sSubId, sEvents].take x.val ++ [sIss, sJti, sIat, sAud, sTxn, sSubId, sEvents].drop (x.val + 1)).Nodup ∧ [sIss, sJti, sIat, sAud, sTxn, sSubId, sEvents].take x.val ++ [sIss, sJti, sIat, sAud, sTxn, sSubId, sEvents].drop (x.val + 1) ≠ [sIss, sJti, sIat, sAud, sTxn, sSubId, sEvents] := by decide +kernel
 obtain ⟨h1, h2⟩ := hn ⟨d, by omega⟩
 refine obj_none (fun m hm => ?_) (by rw [List.map_append, List.map_take, List.map_drop, clMs_names]; exact h1) (by rw [List.map_append, List.map_take, List.map_drop, clMs_names]; exact h2)
 rcases List.mem_append.1 hm with hm | hm
 ·exact ms_pl h (List.mem_of_mem_take hm)
 ·exact ms_pl h (List.mem_of_mem_drop hm)
abbrev sX : ByteArray := ⟨#[120]⟩
theorem more_none {c : Clm} (h : RightC c) : ofP (objJ (clMs c ++ [(sX, numJ 1)])) = none := by
 refine obj_none (fun m hm => ?_) ?_ ?_
 ·rcases List.mem_append.1 hm with hm | hm
  ·exact ms_pl h hm
  ·rcases List.mem_singleton.1 hm with rfl
   exact num_pl 1 (by decide) (by decide)
 ·rw [List.map_append, clMs_names]; decide
 ·rw [List.map_append, clMs_names]; decide
theorem szMs_app : ∀ a b : List (ByteArray × J), Ro.szMs (a ++ b) = Ro.szMs a + Ro.szMs b
 | [], b => by simp [Ro.szMs]
 | (s, j) :: r, b => by simp only [List.cons_append, Ro.szMs, szMs_app r b]; omega
theorem szMs_mem {m : ByteArray × J} : ∀ {l : List (ByteArray × J)}, m ∈ l → m.1.size + Ro.szJ m.2 + 1 ≤ Ro.szMs l
 | (s, j) :: r, h => by
  rcases List.mem_cons.1 h with rfl | h
  ·simp only [Ro.szMs]; omega
  ·have := szMs_mem h; simp only [Ro.szMs]; omega
theorem szMs_le {B : Nat} : ∀ {l : List (ByteArray × J)}, (∀ m ∈ l, m.1.size + Ro.szJ m.2 + 1 ≤ B) → Ro.szMs l ≤ l.length * B
 | [], _ => by simp [Ro.szMs]
 | (s, j) :: r, h => by
  have h1 := h (s, j) (List.mem_cons_self ..)
  have h2 := szMs_le (l := r) fun m hm => h m (List.mem_cons_of_mem _ hm)
  simp only [Ro.szMs, List.length_cons, Nat.succ_mul]
  dsimp only at h1
  omega
theorem obj_sm {c : Clm} (h : RightC c) {ms : List (ByteArray × J)} (hm : ∀ m ∈ ms, m ∈ clMs c ∨ m = (sX, numJ 1)) (hl : ms.length ≤ 8) : smJ (objJ ms) ∧ 6 * (wrJ (objJ ms)).length ≤ 8000000 := by
 have hc : Ro.szMs (clMs c) ≤ 2000 := by have := cl_sz h; unfold clJ at this; rwa [obj_sz] at this
 have hz : Ro.szJ (objJ ms) ≤ 16000 := by
  rw [obj_sz]
  refine Nat.le_trans (szMs_le (B := 2000) fun m hm' => ?_) (Nat.le_trans (Nat.mul_le_mul_right 2000 hl) (by decide))
  rcases hm m hm' with h1 | rfl
  ·exact Nat.le_trans (szMs_mem h1) hc
  ·decide +kernel
 have hw := Ro.wr_of (objJ ms)
 exact ⟨Ro.sm_of _ (by omega), by omega⟩
theorem turn_mem {α : Type} {l : List α} {a b : Nat} {m : α} (hm : m ∈ turn l a b) : m ∈ l := by
 unfold turn at hm
 split at hm
 ·rename_i x y e1 e2
  have hx := List.mem_of_getElem? e1
  have hy := List.mem_of_getElem? e2
  rcases List.mem_or_eq_of_mem_set hm with hm | rfl
  ·exact mem_set hm hy
  ·exact hx
 ·exact hm
theorem turn_len {α : Type} (l : List α) (a b : Nat) : (turn l a b).length = l.length := by
 unfold turn
 split <;> simp
theorem msAt_app {H : Hp} : ∀ {a b : List (ByteArray × J)} {xs ys : List Value}, MsAt H a xs → MsAt H b ys → MsAt H (a ++ b) (xs ++ ys)
 | _, _, _, _, .nil, h => h
 | _, _, _, _, .cons h1 h2, h => by
  rw [List.cons_append, List.append_assoc]
  exact .cons h1 (msAt_app h2 h)
theorem msAt_drop {H : Hp} : ∀ (k : Nat) {a : List (ByteArray × J)} {xs : List Value}, MsAt H a xs → MsAt H (a.drop k) (xs.drop (k * 6))
 | 0, _, _, h => by simpa using h
 | k + 1, _, _, .nil => by simp; exact .nil
 | k + 1, _, _, .cons (s := s) (cs := cs) (xs := xs) h1 h2 => by
  have hl := h1.length
  rw [List.drop_succ_cons, show List.drop ((k + 1) * 6) (Value.string s :: cs ++ xs) = xs.drop (k * 6) by
   rw [List.drop_append, List.drop_of_length_le (by rw [List.length_cons]; omega), List.nil_append, List.length_cons]; congr 1; omega]
  exact msAt_drop k h2
theorem msAt_take {H : Hp} : ∀ (k : Nat) {a : List (ByteArray × J)} {xs : List Value}, MsAt H a xs → MsAt H (a.take k) (xs.take (k * 6))
 | 0, _, _, h => by simp; exact .nil
 | k + 1, _, _, .nil => by simp; exact .nil
 | k + 1, _, _, .cons (s := s) (cs := cs) (xs := xs) h1 h2 => by
  have hl := h1.length
  rw [List.take_succ_cons, show List.take ((k + 1) * 6) (Value.string s :: cs ++ xs) = Value.string s :: cs ++ xs.take (k * 6) by
   rw [List.take_append, List.take_of_length_le (by rw [List.length_cons]; omega), List.length_cons]; congr 2; omega]
  exact .cons h1 (msAt_take k h2)
theorem msAt_one {H : Hp} {s : ByteArray} {j : J} {cs : List Value} (h : JAt H j cs) : MsAt H [(s, j)] (.string s :: cs) := by
 have := MsAt.cons (s := s) h .nil
 simpa using this
theorem msAt_set {H : Hp} {ms : List (ByteArray × J)} {xs : List Value} (h : MsAt H ms xs) {i : Nat} (hi : i < ms.length) {s : ByteArray} {j : J} {cs : List Value} (hc : JAt H j cs) : MsAt H (ms.set i (s, j)) (splice xs (i * 6) (.string s :: cs)) := by
 have hl := hc.length
 rw [List.set_eq_take_append_cons_drop, if_pos hi]
 unfold splice
 rw [show i * 6 + (Value.string s :: cs).length = (i + 1) * 6 by rw [List.length_cons]; omega, List.append_assoc]
 have h2 := msAt_app (msAt_one (s := s) hc) (msAt_drop (i + 1) h)
 exact msAt_app (msAt_take i h) h2
namespace Ov
def T : Tab := [(34, { k := TK.st [(0, 3, 1), (1, 4, 1), (2, 9, 1), (3, 31, 1), (4, 32, 1)], agg := true, size := 5, bytes := 80, zero := [Z.i IntKind.i64, Z.b, Z.s, Z.sl, Z.sl] }), (52, { k := TK.st [(0, 9, 1), (1, 34, 5)], agg := true, size := 6, bytes := 96, zero := [Z.s, Z.i IntKind.i64, Z.b, Z.s, Z.sl, Z.sl] }), (32, { k := TK.slice 52, agg := false, size := 1, bytes := 24, zero := [Z.sl] }), (4, { k := TK.bool, agg := false, size := 1, bytes := 1, zero := [Z.b] }), (3, { k := TK.int IntKind.i64, agg := false, size := 1, bytes := 8, zero := [Z.i IntKind.i64] }), (9, { k := TK.string, agg := false, size := 1, bytes := 16, zero := [Z.s] }), (31, { k := TK.slice 34, agg := false, size := 1, bytes := 24, zero := [Z.sl] })]
set_option maxRecDepth 100000 in
theorem tab : TabOk Tryz.prog T := tabOk_mk (ts := [34, 52, 32, 4, 3, 9, 31]) (by kernel_rfl)
end Ov
theorem objO (n : Nat) (A : Option Addr) (c : Nat) (zs : List Value) (hz : zs.length = n * 6) (hone : ∀ u ∈ zs, u.oneCell' = true) (h0 : 0 < n) (hn : n ≤ 1000000) (H : Hp) (hv : RdV H A zs) :
  CallO Tryz.prog 18 [pv (.slice A n c)] H [] fun e _ G' => e = .ret (.si (.ag [.val (.int .i64 6), .val (.bool false), .val (.string ⟨#[]⟩), .val (.slice none 0 0), .self 0])) ∧ G' = [.row 52 6 n zs] := by
 refine CallO.sub (K0 := fun e _ G' => e = .ret (.si (.ag [.val (.int .i64 6), .val (.bool false), .val (.string ⟨#[]⟩), .val (.slice none 0 0), .self 1])) ∧ ∃ X, G' = [X, .row 52 6 n zs]) ?_ ?_
 ·refine CallO.of_body Ov.tab Tryz.func18 rfl (nt := Tryz.f18.ntmps) rfl (by kernel_rfl) ?_
  (conv => whnf)
  refine ⟨⟨_, Tryz.func48, rfl, by kernel_rfl⟩, CallS.use (clone0 A n c zs hz hone h0 hn H hv) [] rfl rfl trivial ?_⟩
  rintro e H2 G' hle ⟨rfl, rfl⟩
  (conv => whnf)
  exact ⟨rfl, _, rfl⟩
 ·rintro e H' G' hle ⟨rfl, X, rfl⟩
  exact ⟨.si (.ag [.val (.int .i64 6), .val (.bool false), .val (.string ⟨#[]⟩), .val (.slice none 0 0), .self 0]), [.row 52 6 n zs], [1], rfl, ⟨rfl, trivial⟩, rfl, rfl, rfl⟩
theorem objR (ms : List (ByteArray × J)) (hml : ms.length ≤ 1000000) (n : Nat) (hn : n = ms.length) (zs : List Value) (H : Hp) (hm : MsAt H ms zs) (h0 : 0 < ms.length) :
  CallO Tryz.prog 18 [.si (.ce (.self 0))] H [.row 52 6 n zs] fun e H' G' => (∃ B d, e = .ret (agJ 6 false ⟨#[]⟩ none 0 0 B ms.length d) ∧ JAt H' (objJ ms) [.int .i64 6, .bool false, .string ⟨#[]⟩, .slice none 0 0, .slice B ms.length d]) ∧ G' = [.dead] := by
 subst hn
 refine CallO.eat 0 (t := 52) (sz := 6) (n := ms.length) (xs := zs) rfl (fun hz => by omega) ?_
 intro x H2 hle hfr
 obtain ⟨A, c, rfl, hv⟩ : ∃ A c, x = .slice A ms.length c ∧ RdV H2 A zs := by
  rcases hfr with ⟨rfl, h1, h2⟩ | ⟨g, o, cap, rfl, _, h2⟩
  ·omega
  ·exact ⟨_, cap, rfl, fun e => (nomatch e), fun a e => by injection e with e; subst e; exact h2⟩
 refine (CallS.use (obj_ ms hml A c zs H2 (hm.mono hle) hv h0) [] rfl rfl trivial ?_).to
 rintro e H' G' hle2 ⟨⟨B, d, rfl, hj⟩, rfl⟩
 (conv => whnf)
 exact ⟨⟨B, d, rfl, hj⟩, rfl⟩
end Go.Kx.L13
namespace Go.Kx
open Go.RowKit
section
variable {P : Program} {n e : Nat} {D : Pin}
abbrev BOp := Nat × List Nat × (SV → Hp → Prop)
def phiOf : List BOp → Nat → SV → Hp → Prop
  | [], _, _, _ => False
  | b :: r, j, sv, H => match Nat.beq b.1 j with
    | true => b.2.2 sv H
    | false => phiOf r j sv H
def preX (P : Program) (T : Tab) (n : Nat) (ps : List Nat) (ops : List Oper) (Hm : Hp) (Gm : List SB) (K : Fr → Prop) (pre : List Nat) (F : Fr) : Prop :=
  @List.rec Nat (fun _ => Fr → Prop) (fun F => K F)
    (fun i _ ih F => nthX ops i fun o => wantX ops F o.guard fun b => match b with
      | true => quietX P T o F Hm Gm fun sv => partBool (guards ops i) sv fun sv => putX n ps o.dst F sv fun F' => ih F'
      | false => putX n ps o.dst F (pv undef) fun F' => ih F') pre F
def depX (ops : List Oper) (B : List BOp) (H : Hp) (K : Fr → Prop) (deps : List Nat) (F : Fr) : Prop :=
  @List.rec Nat (fun _ => Fr → Prop) (fun F => K F)
    (fun j _ ih F => ∀ sv, phiOf B j sv H → nthX ops j fun o => match o.dst with
      | some d => ih ((d, sv) :: F)
      | none => True) deps F
def obX (P : Program) (T : Tab) (ops : List Oper) (F : Fr) (H : Hp) (G : List SB) (B0 : List BOp) : List BOp → Prop
  | [] => True
  | b :: r => (∀ H', H.Le H' → nthX ops b.1 fun o => depX ops B0 H' (fun F' => wantX ops F' o.guard fun g => match g with
      | true => opX P T o F' H' G (fun sv H'' G'' => G''.take G.length = G ∧ sv.wf G.length = true ∧ b.2.2 sv H'') (fun _ _ _ => False)
      | false => False) b.2.1 F) ∧ obX P T ops F H G B0 r
def moX : List BOp → Prop
  | [] => True
  | b :: r => (∀ sv H H', Hp.Le H H' → b.2.2 sv H → b.2.2 sv H') ∧ moX r
def finX (ops : List Oper) (H : Hp) (K : Fr → Prop) : List BOp → Fr → Prop
  | [], F => K F
  | b :: r, F => ∀ sv, b.2.2 sv H → nthX ops b.1 fun o => match o.dst with
    | some d => finX ops H K r ((d, sv) :: F)
    | none => True
def dstOf (ops : Array Oper) (i : Nat) : Option Tmp := (ops[i]?).bind (·.dst)
def bDst (ops : Array Oper) (B : List BOp) : List Nat := B.filterMap fun b => dstOf ops b.1
def dropF (ds : List Nat) (F : Fr) : Fr := F.filter fun p => !(ds.any (Nat.beq p.1))
def lst (l : Array Bool) : List Nat → Array Bool
  | [] => l
  | i :: r => lst (l.setIfInBounds i true) r
def preOk (ops : Array Oper) : List Nat → Array Bool → Bool
  | [], _ => true
  | i :: r, l => Region.free .any ops l i && (Region.ready .any ops l).contains i && preOk ops r (l.setIfInBounds i true)
def ancs (ops : Array Oper) : Nat → Nat → List Nat
  | 0, _ => []
  | f + 1, k => match ops[k]? with
    | none => []
    | some o => (o.after.toList.filter (Region.binds .any)).flatMap fun e => e.on :: ancs ops f e.on
def opOk (ops : Array Oper) (n : Nat) (ps : List Nat) (l : Array Bool) (S : List Nat) (b : Nat × List Nat) : Bool :=
  match ops[b.1]? with
  | none => false
  | some o => (match o.dst with | some d => Nat.blt d n && !ps.any (Nat.beq d) | none => false) && !l.getD b.1 true &&
    b.2.all (fun j => S.contains j && o.after.any fun e => Region.binds .any e && Nat.beq e.on j) &&
    o.after.all (fun e => !Region.binds .any e || (Nat.blt e.on b.1 && (l.getD e.on false || S.contains e.on)))
def nodB : List Nat → Bool
  | [] => true
  | a :: r => !r.any (Nat.beq a) && nodB r
theorem nodB_ok : ∀ {l : List Nat}, nodB l = true → l.Nodup
  | [], _ => List.nodup_nil
  | a :: r, h => by
    simp only [nodB, Bool.and_eq_true, Bool.not_eq_true', List.any_eq_false] at h
    exact List.nodup_cons.2 ⟨fun hm => h.1 a hm (Nat.beq_refl a), nodB_ok h.2⟩
def bunOk (ops : Array Oper) (n : Nat) (ps : List Nat) (pre : List Nat) (B : List (Nat × List Nat)) (d : DP) (f1 : Nat) : Bool :=
  Region.noSelect ops && preOk ops pre (Array.replicate ops.size false) && Nat.beq ops.size (pre.length + (B.length + f1)) &&
  nodB (B.map (·.1)) && nodB (B.filterMap fun b => dstOf ops b.1) &&
  B.all (opOk ops n ps (lst (Array.replicate ops.size false) pre) (B.map (·.1))) &&
  (List.range ops.size).all (fun k => (lst (Array.replicate ops.size false) pre).getD k true || (B.map (·.1)).contains k || (B.map (·.1)).all fun i => (ancs ops 12 k).contains i) &&
  okD ops false d f1 (lst (lst (Array.replicate ops.size false) pre) (B.map (·.1)))
theorem lst_size : ∀ (l : Array Bool) (is : List Nat), (lst l is).size = l.size
  | l, [] => rfl
  | l, i :: r => by rw [lst, lst_size]; simp
theorem lst_getD (d : Bool) : ∀ (is : List Nat) (l : Array Bool) (k : Nat), k ∉ is → (lst l is).getD k d = l.getD k d
  | [], l, k, _ => rfl
  | i :: r, l, k, h => by
    simp only [List.mem_cons, not_or] at h
    rw [lst, lst_getD d r _ k h.2, getD_set_ne d (Ne.symm h.1)]
theorem lst_true (d : Bool) : ∀ (is : List Nat) (l : Array Bool) (k : Nat), k < l.size → k ∈ is ∨ l.getD k d = true → (lst l is).getD k d = true
  | [], l, k, _, h => by
    rcases h with h | h
    · simp at h
    · exact h
  | i :: r, l, k, hk, h => by
    rw [lst]
    by_cases hik : i = k
    · subst hik
      exact lst_true d r _ i (by simpa using hk) (.inr (by simp [hk]))
    · refine lst_true d r _ k (by simpa using hk) ?_
      rcases h with h | h
      · rcases List.mem_cons.1 h with h | h
        · exact absurd h.symm hik
        · exact .inl h
      · exact .inr (by rw [getD_set_ne d hik]; exact h)
def Closed (ops : Array Oper) (l : Array Bool) : Prop := ∀ k o, ops[k]? = some o → l.getD k false = true → ∀ e ∈ o.after, Region.binds .any e = true → l.getD e.on false = true
theorem Closed.set {ops : Array Oper} {l : Array Bool} (h : Closed ops l) {i : Nat} (hi : i ∈ Region.ready .any ops l) : Closed ops (l.setIfInBounds i true) := by
  intro k o hk hl e he hb
  refine getD_set_true ?_
  by_cases hik : i = k
  · subst hik
    obtain ⟨_, o2, ho2, hall⟩ := mem_ready.1 hi
    rw [hk] at ho2
    injection ho2 with ho2
    subst ho2
    exact hall e he hb
  · rw [getD_set_ne false hik] at hl
    exact h k o hk hl e he hb
theorem Closed.ancs {ops : Array Oper} {l : Array Bool} (h : Closed ops l) : ∀ (f k : Nat), (∀ o, ops[k]? = some o → ∀ e ∈ o.after, Region.binds .any e = true → l.getD e.on false = true) → ∀ j ∈ ancs ops f k, l.getD j false = true
  | 0, k, _, j, hj => by simp [Kx.ancs] at hj
  | f + 1, k, hk, j, hj => by
    unfold Kx.ancs at hj
    split at hj
    · simp at hj
    · rename_i o ho
      simp only [List.mem_flatMap, List.mem_filter, Array.mem_toList_iff, List.mem_cons] at hj
      obtain ⟨e, ⟨he, hb⟩, hj⟩ := hj
      have h1 := hk o ho e he hb
      rcases hj with rfl | hj
      · exact h1
      · exact h.ancs f e.on (fun o2 ho2 e2 he2 hb2 => h e.on o2 ho2 h1 e2 he2 hb2) j hj
theorem Closed.begin (ops : Array Oper) (m : Nat) : Closed ops (Array.replicate m false) := by
  intro k o hk hl e he hb
  exfalso
  rw [Array.getD_eq_getD_getElem?, Array.getElem?_replicate] at hl
  split at hl <;> simp at hl
theorem phiOf_mem {B : List BOp} {j : Nat} {sv : SV} {H : Hp} {deps : List Nat} {Φ : SV → Hp → Prop} (hn : (B.map (·.1)).Nodup) (hm : (j, deps, Φ) ∈ B) (h : Φ sv H) : phiOf B j sv H := by
  induction B with
  | nil => simp at hm
  | cons b r ih =>
    simp only [List.map_cons, List.nodup_cons] at hn
    unfold phiOf
    rcases List.mem_cons.1 hm with rfl | hm
    · simp only [Nat.beq_refl]; exact h
    · have : Nat.beq b.1 j = false := by
        cases hb : Nat.beq b.1 j with
        | false => rfl
        | true =>
          have := Nat.eq_of_beq_eq_true hb
          exact absurd (List.mem_map.2 ⟨_, hm, this.symm⟩) hn.1
      simp only [this]
      exact ih hn.2 hm
theorem depX_ok {ops : Array Oper} {B : List BOp} {H : Hp} {K : Fr → Prop} : ∀ {deps : List Nat} {F : Fr}, depX ops.toList B H K deps F →
    ∀ (V : Nat → SV), (∀ j ∈ deps, phiOf B j (V j) H ∧ (dstOf ops j).isSome = true) → K ((deps.filterMap fun j => (dstOf ops j).map fun d => (d, V j)).reverse ++ F)
  | [], F, h, V, _ => h
  | j :: r, F, h, V, hV => by
    have h1 : ∀ sv, phiOf B j sv H → nthX ops.toList j fun o => match o.dst with
      | some d => depX ops.toList B H K r ((d, sv) :: F)
      | none => True := h
    obtain ⟨h2, h3⟩ := hV j (by simp)
    obtain ⟨o, ho, h4⟩ := nthX_ok (h1 (V j) h2)
    have ho' : ops[j]? = some o := by simpa using ho
    cases hd : o.dst with
    | none => rw [dstOf, ho'] at h3; simp [hd] at h3
    | some d =>
      rw [hd] at h4
      have := depX_ok (F := (d, V j) :: F) h4 V (fun k hk => hV k (by simp [hk]))
      have e : dstOf ops j = some d := by rw [dstOf, ho']; exact hd
      rw [List.filterMap_cons, e]
      simpa using this
theorem finX_ok {ops : Array Oper} {H : Hp} {K : Fr → Prop} : ∀ {B : List BOp} {F : Fr}, finX ops.toList H K B F →
    ∀ (V : Nat → SV), (∀ b ∈ B, b.2.2 (V b.1) H ∧ (dstOf ops b.1).isSome = true) → K ((B.filterMap fun b => (dstOf ops b.1).map fun d => (d, V b.1)).reverse ++ F)
  | [], F, h, V, _ => h
  | b :: r, F, h, V, hV => by
    obtain ⟨h2, h3⟩ := hV b (by simp)
    obtain ⟨o, ho, h4⟩ := nthX_ok (h (V b.1) h2)
    have ho' : ops[b.1]? = some o := by simpa using ho
    cases hd : o.dst with
    | none => rw [dstOf, ho'] at h3; simp [hd] at h3
    | some d =>
      rw [hd] at h4
      have := finX_ok (F := (d, V b.1) :: F) h4 V (fun k hk => hV k (by simp [hk]))
      have e : dstOf ops b.1 = some d := by rw [dstOf, ho']; exact hd
      rw [List.filterMap_cons, e]
      simpa using this
theorem obX_mem {T : Tab} {ops : List Oper} {F : Fr} {H : Hp} {G : List SB} {B0 : List BOp} : ∀ {B : List BOp}, obX P T ops F H G B0 B → ∀ b ∈ B, ∀ H', H.Le H' → nthX ops b.1 fun o => depX ops B0 H' (fun F' => wantX ops F' o.guard fun g => match g with
      | true => opX P T o F' H' G (fun sv H'' G'' => G''.take G.length = G ∧ sv.wf G.length = true ∧ b.2.2 sv H'') (fun _ _ _ => False)
      | false => False) b.2.1 F
  | [], _, b, hb => by simp at hb
  | c :: r, h, b, hb => by
    rcases List.mem_cons.1 hb with rfl | hb
    · exact h.1
    · exact obX_mem h.2 b hb
theorem moX_mem : ∀ {B : List BOp}, moX B → ∀ b ∈ B, ∀ sv H H', Hp.Le H H' → b.2.2 sv H → b.2.2 sv H'
  | [], _, b, hb => by simp at hb
  | c :: r, h, b, hb => by
    rcases List.mem_cons.1 hb with rfl | hb
    · exact h.1
    · exact moX_mem h.2 b hb
theorem dropF_mem {ds : List Nat} {F : Fr} {p : Nat × SV} : p ∈ dropF ds F ↔ p ∈ F ∧ p.1 ∉ ds := by
  unfold dropF
  rw [List.mem_filter]
  simp only [Bool.not_eq_true', List.any_eq_false]
  constructor
  · rintro ⟨h1, h2⟩; exact ⟨h1, fun h => h2 _ h (Nat.beq_refl _)⟩
  · rintro ⟨h1, h2⟩; exact ⟨h1, fun x hx e => h2 (by rw [Nat.eq_of_beq_eq_true e]; exact hx)⟩
theorem getD_any {l : Array Bool} {k : Nat} (h : k < l.size) (d d' : Bool) : l.getD k d = l.getD k d' := by simp [h]
theorem arr_ext {a b : Array Bool} (hs : a.size = b.size) (h : ∀ k, k < a.size → a.getD k true = b.getD k true) : a = b := by
  refine Array.ext hs fun k h1 h2 => ?_
  have := h k h1
  simpa [h1, h2] using this
theorem put_get {a : Act} {d k : Nat} {v : Value} (h : k ≠ d) : (a.put (some d) v).tmps[k]? = a.tmps[k]? := by
  show (a.tmps.setIfInBounds d v)[k]? = _
  rw [Array.getElem?_setIfInBounds_ne (Ne.symm h)]
theorem put_at {a : Act} {d : Nat} {v : Value} (h : d < a.tmps.size) : (a.put (some d) v).tmps[d]? = some v := by
  show (a.tmps.setIfInBounds d v)[d]? = _
  simp [h]
structure OpOk (ops : Array Oper) (n : Nat) (ps : List Nat) (l : Array Bool) (S : List Nat) (i : Nat) (deps : List Nat) (o : Oper) (d : Nat) : Prop where
  op : ops[i]? = some o
  dst : o.dst = some d
  lt : d < n
  ps : d ∉ ps
  un : l.getD i true = false
  deps : ∀ j ∈ deps, j ∈ S ∧ ∃ e ∈ o.after, Region.binds .any e = true ∧ e.on = j
  after : ∀ e ∈ o.after, Region.binds .any e = true → e.on < i ∧ (l.getD e.on false = true ∨ e.on ∈ S)
theorem opOk_ok {ops : Array Oper} {n : Nat} {ps : List Nat} {l : Array Bool} {S : List Nat} {b : Nat × List Nat} (h : opOk ops n ps l S b = true) : ∃ o d, OpOk ops n ps l S b.1 b.2 o d := by
  unfold opOk at h
  split at h
  · cases h
  · rename_i o ho
    simp only [Bool.and_eq_true, Bool.not_eq_true'] at h
    obtain ⟨⟨⟨h1, h2⟩, h3⟩, h4⟩ := h
    split at h1
    · rename_i d hd
      simp only [Bool.and_eq_true, Bool.not_eq_true', List.any_eq_false] at h1
      refine ⟨o, d, ho, hd, Nat.le_of_ble_eq_true h1.1, fun hm => h1.2 d hm (Nat.beq_refl d), h2, fun j hj => ?_, fun e he hb => ?_⟩
      · have := List.all_eq_true.1 h3 j hj
        simp only [Bool.and_eq_true, List.contains_iff_mem, Array.any_eq_true'] at this
        obtain ⟨h5, e, he, h6⟩ := this
        exact ⟨h5, e, he, h6.1, Nat.eq_of_beq_eq_true h6.2⟩
      · have := (Array.all_eq_true_iff_forall_mem.1 h4) e he
        rw [hb] at this
        simp only [Bool.not_true, Bool.false_or, Bool.and_eq_true, Bool.or_eq_true, List.contains_iff_mem] at this
        exact ⟨Nat.le_of_ble_eq_true this.1, this.2⟩
    · cases h1
theorem leastN {p : Nat → Prop} : ∀ (i : Nat), p i → ∃ k, p k ∧ ∀ j, j < k → ¬ p j := by
  intro i
  induction i using Nat.strongRecOn with
  | _ i ih =>
    intro h
    by_cases hx : ∃ j, j < i ∧ p j
    · obtain ⟨j, h1, h2⟩ := hx
      exact ih j h1 h2
    · exact ⟨i, h, fun j hj hp => hx ⟨j, hj, hp⟩⟩
theorem eq_of_key : ∀ {B : List BOp}, (B.map (·.1)).Nodup → ∀ {b c : BOp}, b ∈ B → c ∈ B → c.1 = b.1 → c = b
  | [], _, b, c, hb, _, _ => by simp at hb
  | x :: r, hn, b, c, hb, hc, h => by
    simp only [List.map_cons, List.nodup_cons] at hn
    rcases List.mem_cons.1 hb with hb | hb
    · rcases List.mem_cons.1 hc with hc | hc
      · rw [hb, hc]
      · exact absurd (List.mem_map.2 ⟨c, hc, by rw [h, hb]⟩) hn.1
    · rcases List.mem_cons.1 hc with hc | hc
      · exact absurd (List.mem_map.2 ⟨b, hb, by rw [← h, hc]⟩) hn.1
      · exact eq_of_key hn.2 hb hc h
theorem dst_key {ops : Array Oper} : ∀ {B : List BOp}, (B.filterMap fun b => dstOf ops b.1).Nodup → ∀ b ∈ B, ∀ c ∈ B, ∀ d, dstOf ops b.1 = some d → dstOf ops c.1 = some d → b.1 = c.1
  | [], _, b, hb, _, _, _, _, _ => by simp at hb
  | x :: r, h1, b, hb, c, hc, d, hbd, hcd => by
    cases hx : dstOf ops x.1 with
    | none =>
      rw [List.filterMap_cons_none (f := fun b : BOp => dstOf ops b.1) hx] at h1
      rcases List.mem_cons.1 hb with hb | hb
      · rw [hb, hx] at hbd; cases hbd
      rcases List.mem_cons.1 hc with hc | hc
      · rw [hc, hx] at hcd; cases hcd
      exact dst_key h1 b hb c hc d hbd hcd
    | some dx =>
      rw [List.filterMap_cons_some (f := fun b : BOp => dstOf ops b.1) hx] at h1
      simp only [List.nodup_cons] at h1
      have hno : ∀ y ∈ r, dstOf ops y.1 ≠ some dx := fun y hy hyd => h1.1 (List.mem_filterMap.2 ⟨y, hy, hyd⟩)
      rcases List.mem_cons.1 hb with hb | hb
      · rcases List.mem_cons.1 hc with hc | hc
        · rw [hb, hc]
        · rw [hb, hx] at hbd
          exact absurd (by rw [hcd, hbd]) (hno c hc)
      · rcases List.mem_cons.1 hc with hc | hc
        · rw [hc, hx] at hcd
          exact absurd (by rw [hbd, hcd]) (hno b hb)
        · exact dst_key h1.2 b hb c hc d hbd hcd
theorem bun_ok {T : Tab} (hT : TabOk P T) {ops : Array Oper} {B : List BOp} {L0 : Array Bool} {f1 : Nat} {Q : Exit → Act → World → Prop} {Sh : World → Prop} {w0 : World} {M : Nat → Prop} (hgd : Gd w0 M) {H0 H : Hp} {ρ : List Value} {G : List SB} {F0 : Fr}
    (hsz0 : L0.size = ops.size) (hn : (B.map (·.1)).Nodup) (hnd : ∀ b ∈ B, ∀ c ∈ B, ∀ d, dstOf ops b.1 = some d → dstOf ops c.1 = some d → b.1 = c.1) (hop : ∀ b ∈ B, opOk ops n D.ps L0 (B.map (·.1)) (b.1, b.2.1) = true)
    (htail : ∀ k, k < ops.size → L0.getD k true = true ∨ k ∈ B.map (·.1) ∨ ∀ i ∈ B.map (·.1), i ∈ ancs ops 12 k) (hmo : moX B) (hwf : G.all (SB.wf G.length) = true) (hlen : ρ.length = G.length) (hob : obX P T ops.toList F0 H G B B)
    (hF0 : ∀ p ∈ F0, ∀ b ∈ B, dstOf ops b.1 ≠ some p.1)
    (hheld : ∀ H' w', H.Le H' → St w0 M H0 ρ H' G w' → Sh w')
    (hfin : ∀ H' a' w' (V : Nat → SV), H.Le H' → St w0 M H0 ρ H' G w' → D.On a' → a'.tmps.size = n → (∀ b ∈ B, b.2.2 (V b.1) H') → FOk ρ F0 a'.tmps → (∀ b ∈ B, ∀ d, dstOf ops b.1 = some d → ∃ v, a'.tmps[d]? = some v ∧ (V b.1).Is ρ v) → wpAnyH P .any ops Q Sh f1 (lst L0 (B.map (·.1))) a' w') :
    ∀ (m : Nat) (U : List Nat) (listed : Array Bool) (a : Act) (w : World) (H' : Hp) (V : Nat → SV), U.Nodup → (∀ j, j ∈ U ↔ j ∈ B.map (·.1) ∧ listed.getD j true = false) → U.length = m → listed.size = ops.size → (∀ k, k ∉ B.map (·.1) → ∀ d, listed.getD k d = L0.getD k d) → Closed ops listed →
      H.Le H' → St w0 M H0 ρ H' G w → D.On a → a.tmps.size = n → FOk ρ F0 a.tmps → (∀ b ∈ B, listed.getD b.1 false = true → b.2.2 (V b.1) H' ∧ ∀ d, dstOf ops b.1 = some d → ∃ v, a.tmps[d]? = some v ∧ (V b.1).Is ρ v) →
      wpAnyH P .any ops Q Sh (m + f1) listed a w := by
  have hB : ∀ i, i ∈ B.map (·.1) → ∃ b ∈ B, b.1 = i := fun i hi => by
    obtain ⟨b, hb, rfl⟩ := List.mem_map.1 hi
    exact ⟨b, hb, rfl⟩
  have hlt : ∀ i, i ∈ B.map (·.1) → i < ops.size := fun i hi => by
    obtain ⟨b, hb, rfl⟩ := hB i hi
    obtain ⟨o, d, ho⟩ := opOk_ok (hop b hb)
    exact (Array.getElem?_eq_some_iff.1 ho.op).1
  intro m
  induction m with
  | zero =>
    intro U listed a w H' V hU hUm hUl hls hout hcl hle hs hde hsz hf hV
    have hU0 : U = [] := List.eq_nil_of_length_eq_zero hUl
    subst hU0
    have hall : ∀ j, j ∈ B.map (·.1) → listed.getD j true = true := fun j hj => by
      cases hb : listed.getD j true with
      | true => rfl
      | false => exact absurd ((hUm j).2 ⟨hj, hb⟩) (by simp)
    have hall2 : ∀ j, j ∈ B.map (·.1) → listed.getD j false = true := fun j hj => by
      rw [getD_any (by rw [hls]; exact hlt j hj) false true]; exact hall j hj
    have heq : listed = lst L0 (B.map (·.1)) := by
      refine arr_ext (by rw [lst_size, hls, hsz0]) fun k hk => ?_
      by_cases hkS : k ∈ B.map (·.1)
      · rw [hall k hkS, lst_true true _ _ k (by rw [hsz0, ← hls]; exact hk) (.inl hkS)]
      · rw [hout k hkS true, lst_getD true _ _ k hkS]
    rw [Nat.zero_add, heq]
    exact hfin H' a w V hle hs hde hsz (fun b hb => (hV b hb (hall2 _ (List.mem_map_of_mem hb))).1) hf (fun b hb => (hV b hb (hall2 _ (List.mem_map_of_mem hb))).2)
  | succ m ih =>
    intro U listed a w H' V hU hUm hUl hls hout hcl hle hs hde hsz hf hV
    obtain ⟨i0, hi0⟩ : ∃ i, i ∈ U := by
      cases U with
      | nil => simp at hUl
      | cons x r => exact ⟨x, by simp⟩
    obtain ⟨i1, hi1, hmin⟩ := leastN (p := fun i => i ∈ U) i0 hi0
    obtain ⟨hi1S, hi1u⟩ := (hUm i1).1 hi1
    have hr1 : i1 ∈ Region.ready .any ops listed := by
      obtain ⟨b, hb, rfl⟩ := hB i1 hi1S
      obtain ⟨o, d, ho⟩ := opOk_ok (hop b hb)
      refine mem_ready.2 ⟨hi1u, o, ho.op, fun e he hbd => ?_⟩
      obtain ⟨h1, h2⟩ := ho.after e he hbd
      have helt : e.on < listed.size := by rw [hls]; exact Nat.lt_trans h1 (hlt _ hi1S)
      by_cases heS : e.on ∈ B.map (·.1)
      · cases hg : listed.getD e.on true with
        | false => exact absurd ((hUm e.on).2 ⟨heS, hg⟩) (hmin _ h1)
        | true => rw [getD_any helt false true]; exact hg
      · rw [hout e.on heS false]
        exact h2.resolve_right heS
    have hstep : m + 1 + f1 = (m + f1) + 1 := by omega
    rw [hstep]
    refine ⟨fun h0 => (by rw [h0] at hr1; cases hr1), fun i hi => ?_⟩
    have hi' := mem_ready.1 hi
    obtain ⟨hiu, o, ho, hafter⟩ := hi'
    have hilt : i < ops.size := (Array.getElem?_eq_some_iff.1 ho).1
    have hiS : i ∈ B.map (·.1) := by
      rcases htail i hilt with h | h | h
      · by_cases hS : i ∈ B.map (·.1)
        · exact hS
        · rw [hout i hS true, h] at hiu; cases hiu
      · exact h
      · exfalso
        have h1 := hcl.ancs 12 i (fun o2 ho2 e he hbd => by
          rw [ho] at ho2; injection ho2 with ho2; subst ho2
          exact hafter e he hbd) i1 (h i1 hi1S)
        rw [getD_any (by rw [hls]; exact hlt _ hi1S) false true, hi1u] at h1
        cases h1
    obtain ⟨b, hb, rfl⟩ := hB i hiS
    obtain ⟨o2, d, hok⟩ := opOk_ok (hop b hb)
    have : o2 = o := by have := hok.op; simp only at this; rw [ho] at this; injection this with this; exact this.symm
    subst this
    have hdst : dstOf ops b.1 = some d := by unfold dstOf; rw [ho]; exact hok.dst
    have hdepsl : ∀ j ∈ b.2.1, j ∈ B.map (·.1) ∧ listed.getD j false = true := fun j hj => by
      obtain ⟨h1, e, he, h2, rfl⟩ := hok.deps j hj
      exact ⟨h1, hafter e he h2⟩
    have hdepV : ∀ j ∈ b.2.1, phiOf B j (V j) H' ∧ (dstOf ops j).isSome = true := fun j hj => by
      obtain ⟨h1, h2⟩ := hdepsl j hj
      obtain ⟨c, hc, rfl⟩ := hB j h1
      obtain ⟨o3, d3, hok3⟩ := opOk_ok (hop c hc)
      refine ⟨phiOf_mem hn hc (hV c hc h2).1, ?_⟩
      have e3 : ops[c.1]? = some o3 := hok3.op
      unfold dstOf; rw [e3]; simp [hok3.dst]
    obtain ⟨o3, ho3, h4⟩ := nthX_ok (obX_mem hob b hb H' hle)
    have : o3 = o2 := by have h5 : ops[b.1]? = some o3 := by simpa using ho3
                         rw [ho] at h5; injection h5 with h5; exact h5.symm
    subst this
    have h5 := depX_ok h4 V hdepV
    obtain ⟨g, h6, hw⟩ := wantX_ok (ops := ops) h5
    have hf' : FOk ρ ((b.2.1.filterMap fun j => (dstOf ops j).map fun d => (d, V j)).reverse ++ F0) a.tmps := by
      intro k sv hk
      rcases List.mem_append.1 hk with hk | hk
      · rw [List.mem_reverse, List.mem_filterMap] at hk
        obtain ⟨j, hj, hk⟩ := hk
        obtain ⟨h1, h2⟩ := hdepsl j hj
        obtain ⟨c, hc, rfl⟩ := hB j h1
        cases hdd : dstOf ops c.1 with
        | none => rw [hdd] at hk; cases hk
        | some dd =>
          rw [hdd] at hk
          simp only [Option.map_some, Option.some.injEq, Prod.mk.injEq] at hk
          obtain ⟨rfl, rfl⟩ := hk
          exact (hV c hc h2).2 _ hdd
      · exact hf k sv hk
    unfold wpOp
    simp only [ho, hw ρ a hf']
    cases g with
    | false => exact h6.elim
    | true =>
      simp only [if_true]
      left
      refine upon_of_out (opX_ok hT h6 w0 M hgd H0 ρ a w hs hf') ?_ ?_
      · rintro v w' ⟨sv, ρ', H2, G', h1, h2, h3, h4', hcut, hsv, hphi⟩
        have hρ : ρ'.take G.length = ρ := by
          rw [← hlen]
          refine List.ext_getElem? fun k => ?_
          rw [List.getElem?_take]
          split
          · rename_i hk
            have h8 : ρ[k]? = some ρ[k] := List.getElem?_eq_getElem hk
            rw [h8]; exact h2 k _ h8
          · rename_i hk
            rw [List.getElem?_eq_none (by omega)]
        have hs2 : St w0 M H0 ρ H2 G w' := by
          have := h1.cut G.length (by rw [hcut]; exact hwf)
          rwa [hρ, hcut] at this
        have hsv2 : sv.Is ρ v := by
          have := SV.Is.cut hsv h3
          rwa [hρ] at this
        have hle2 := hle.trans h4'
        rw [hok.dst]
        refine ⟨hheld H2 w' hle2 hs2, ?_⟩
        refine ih (U.erase b.1) _ _ w' H2 (fun j => if j = b.1 then sv else V j) (hU.erase _) ?_ ?_ (by simpa using hls) ?_ (hcl.set hi) hle2 hs2 (hde.put (fun d' hd' => by injection hd' with hd'; subst hd'; exact hok.ps) v) ?_ ?_ ?_
        · intro j
          rw [hU.mem_erase_iff, hUm]
          constructor
          · rintro ⟨h7, h8, h9⟩
            exact ⟨h8, by rw [getD_set_ne true (Ne.symm h7)]; exact h9⟩
          · rintro ⟨h8, h9⟩
            have h7 : j ≠ b.1 := fun h => by
              subst h
              have : (listed.setIfInBounds b.1 true).getD b.1 true = true := by simp [hls, hilt]
              rw [this] at h9; cases h9
            exact ⟨h7, h8, by rw [getD_set_ne true (Ne.symm h7)] at h9; exact h9⟩
        · rw [List.length_erase_of_mem ((hUm b.1).2 ⟨hiS, hiu⟩), hUl]; rfl
        · intro k hk dd
          rw [getD_set_ne dd (fun h => hk (by rw [← h]; exact hiS))]
          exact hout k hk dd
        · rw [put_size]; exact hsz
        · intro k s hk
          rw [put_get (fun h => hF0 _ hk b hb (by rw [hdst]; exact congrArg some h.symm))]
          exact hf k s hk
        · intro c hc hcl'
          by_cases hcb : c.1 = b.1
          · have : c = b := eq_of_key hn hb hc hcb
            subst this
            simp only [if_true]
            refine ⟨hphi, fun dd hdd => ?_⟩
            rw [hdst] at hdd
            injection hdd with hdd
            subst hdd
            exact ⟨v, put_at (by rw [hsz]; exact hok.lt), hsv2⟩
          · simp only [if_neg hcb]
            rw [getD_set_ne false (Ne.symm hcb)] at hcl'
            obtain ⟨h7, h8⟩ := hV c hc hcl'
            refine ⟨moX_mem hmo c hc _ _ _ h4' h7, fun dd hdd => ?_⟩
            rw [put_get (fun h => hcb (hnd c hc b hb dd hdd (by rw [hdst]; exact congrArg some h.symm)))]
            exact h8 dd hdd
      · rintro ch w' ⟨ρ', H2, G', h1, h2, h4', h5'⟩
        exact h5'.elim
theorem pre_ok {T : Tab} (hT : TabOk P T) {ops : Array Oper} (hsel : Region.noSelect ops = true) {Q : Exit → Act → World → Prop} {Hm : Hp} {ρ : List Value} {Gm : List SB} (hl0 : ρ.length = Gm.length)
    (hQ : ∀ (dst : Option Tmp) (_ : ∀ d, dst = some d → d ∉ D.ps) (v : Value) c a w, Q (.panic c) (a.put dst v) w → Q (.panic c) a w) {Kc : Fr → Prop} {fuel : Nat} :
    ∀ (pre : List Nat) (F : Fr) (listed : Array Bool), preOk ops pre listed = true → preX P T n D.ps ops.toList Hm Gm Kc pre F → Closed ops listed → ∀ (a : Act) (w : World), FOk ρ F a.tmps → D.On a → a.tmps.size = n → Held Hm ρ Gm w →
      (∀ F' a', Kc F' → FOk ρ F' a'.tmps → D.On a' → a'.tmps.size = n → Closed ops (lst listed pre) → wpAnyH P .any ops Q (Held Hm ρ Gm) fuel (lst listed pre) a' w) → wpAnyH P .any ops Q (Held Hm ρ Gm) (pre.length + fuel) listed a w
  | [], F, listed, _, h, hc, a, w, hf, hde, hsz, hS, hk => by rw [List.length_nil, Nat.zero_add]; exact hk F a h hf hde hsz hc
  | i :: r, F, listed, hp, h, hc, a, w, hf, hde, hsz, hS, hk => by
    simp only [preOk, Bool.and_eq_true] at hp
    obtain ⟨⟨hfree, hready⟩, hp⟩ := hp
    obtain ⟨o, ho, hd⟩ := nthX_ok (K := fun o => wantX ops.toList F o.guard fun b => match b with
      | true => quietX P T o F Hm Gm fun sv => partBool (guards ops.toList i) sv fun sv => putX n D.ps o.dst F sv fun F' => preX P T n D.ps ops.toList Hm Gm Kc r F'
      | false => putX n D.ps o.dst F (pv undef) fun F' => preX P T n D.ps ops.toList Hm Gm Kc r F') h
    obtain ⟨b, hd, hw⟩ := wantX_ok (ops := ops) hd
    have ho' : ops[i]? = some o := by simpa using ho
    have hsw : ∀ w, Held Hm ρ Gm w → Sw ρ Hm Gm w := fun w h => h.sw hl0 (.refl _) ⟨0, by simp⟩ hl0
    have hri : i ∈ Region.ready .any ops listed := by simpa using hready
    rw [List.length_cons, show r.length + 1 + fuel = (r.length + fuel) + 1 by omega]
    cases b with
    | true =>
      obtain ⟨sv, hd, hq⟩ := quietX_ok hT hd
      obtain ⟨sv', hd, h6⟩ := partBool_ok hd
      obtain ⟨F', hd, h70, h7⟩ := putX_ok hd
      obtain ⟨v, h8, h9⟩ := hq ρ a w hf (hsw w hS)
      refine wpAnyH_take (v := v) ho' hsel hfree hready (hQ _ h70 _) (.inl ⟨by rw [hw ρ a hf], fun w' h => h9 w' (hsw w' h)⟩) hS ?_
      exact pre_ok hT hsel hl0 hQ r F' _ hp hd (hc.set hri) _ w (h7 ρ a v hsz hf (h6 ρ v h8)) (hde.put h70 _) (by rw [put_size]; exact hsz) hS hk
    | false =>
      obtain ⟨F', hd, h70, h7⟩ := putX_ok hd
      refine wpAnyH_take (v := undef) ho' hsel hfree hready (hQ _ h70 _) (.inr ⟨by rw [hw ρ a hf], rfl⟩) hS ?_
      exact pre_ok hT hsel hl0 hQ r F' _ hp hd (hc.set hri) _ w (h7 ρ a undef hsz hf rfl) (hde.put h70 _) (by rw [put_size]; exact hsz) hS hk
theorem WS.bunch {T : Tab} (hT : TabOk P T) (hm : P.follows .mixedOrders = true) {id : Nat} {ops : Array Oper} {K : KT} {F : Fr} {H : Hp} {G : List SB} (pre : List Nat) (B : List BOp) (d : DP) (f1 : Nat) (hB : bunOk ops n D.ps pre (B.map fun b => (b.1, b.2.1)) d f1 = true) (mask : List Nat) (hmo : moX B) (hwf : G.all (SB.wf G.length) = true)
    (h : preX P T n D.ps ops.toList H (maskX mask G) (fun F' => obX P T ops.toList (dropF (bDst ops B) F') H G B B ∧ ∀ H', H.Le H' → finX ops.toList H' (fun F'' => drX P T n D.ps ops.toList H (fun ch H' G' => K (.panic ch) [] H' G') (fun F' H' G' => K .normal F' H' G') d F'' H' G (maskX mask G)) B (dropF (bDst ops B) F')) pre F) : WS P n e D (.region id ops true) K F H G := by
  refine ⟨?_⟩
  intro w0 M hgd H0 ρ a w hs hf hde hsz
  simp only [bunOk, Bool.and_eq_true, List.map_map, List.length_map] at hB
  obtain ⟨⟨⟨⟨⟨⟨⟨hsel, hpre⟩, hsize⟩, hn⟩, hnd⟩, hop⟩, htail⟩, hd⟩ := hB
  have hmap : (B.map fun b => (b.1, b.2.1)).map (fun b : Nat × List Nat => b.1) = B.map (·.1) := by rw [List.map_map]; rfl
  have hsize := Nat.eq_of_beq_eq_true hsize
  have hmk := maskX_ok (ks := mask) (G := G)
  generalize hGm : maskX mask G = Gm at *
  have hsd := hs.drew (w.drawn + 1)
  have hl0 : ρ.length = Gm.length := by rw [hmk.1]; exact hs.len
  have hheld : ∀ H' w', H.Le H' → St w0 M H0 ρ H' G w' → Held H ρ Gm w' := fun H' w' hle h => ⟨fun b o v hb => h.hin b o v (hle _ _ _ hb), fun k s r h1 h2 => by
    rcases hmk.2 k s h1 with rfl | h3
    · trivial
    · exact h.ok k s r h3 h2⟩
  have hQ : ∀ (dst : Option Tmp) (_ : ∀ d, dst = some d → d ∉ D.ps) (v : Value) c a w, PostX n e D w0 M H0 ρ H K (.panic c) (a.put dst v) w → PostX n e D w0 M H0 ρ H K (.panic c) a w := by
    intro dst hps v c a w h
    obtain ⟨h1, h2⟩ := h
    exact ⟨h1.unput hps, h2⟩
  refine wp_region_held (S := Held H ρ Gm) hm ?_
  rw [hsize]
  have hpre' := hpre
  rw [hsize] at hpre'
  have hLsz : (Array.replicate (pre.length + (B.length + f1)) false : Array Bool).size = ops.size := by simp [hsize]
  refine pre_ok hT hsel hl0 hQ (fuel := B.length + f1) pre F _ hpre' h (.begin ops _) a _ hf hde hsz (hheld H _ (.refl _) hsd) ?_
  intro F1 a1 ⟨hob, hfin⟩ hf1 hde1 hsz1 hcl1
  generalize hL0 : lst (Array.replicate (pre.length + (B.length + f1)) false) pre = L0 at *
  have hL0sz : L0.size = ops.size := by rw [← hL0, lst_size, hLsz]
  rw [hsize, hL0] at hop htail hd
  have hcomp : B.map ((fun x : Nat × List Nat => x.1) ∘ fun b : BOp => (b.1, b.2.1)) = B.map (·.1) := rfl
  rw [hcomp] at hop htail hd hn
  have hnodS : (B.map (·.1)).Nodup := by
    have := nodB_ok hn
    simpa using this
  have hop' : ∀ b ∈ B, opOk ops n D.ps L0 (B.map (·.1)) (b.1, b.2.1) = true := fun b hb => by
    have := List.all_eq_true.1 hop (b.1, b.2.1) (List.mem_map.2 ⟨b, hb, rfl⟩)
    exact this
  have hnd' : ∀ b ∈ B, ∀ c ∈ B, ∀ d, dstOf ops b.1 = some d → dstOf ops c.1 = some d → b.1 = c.1 := by
    have h1 := nodB_ok hnd
    have h2 : ((B.map fun b => (b.1, b.2.1)).filterMap fun b => dstOf ops b.1) = B.filterMap fun b => dstOf ops b.1 := by rw [List.filterMap_map]; rfl
    rw [h2] at h1
    exact dst_key h1
  have hF0 : ∀ p ∈ dropF (bDst ops B) F1, ∀ b ∈ B, dstOf ops b.1 ≠ some p.1 := fun p hp b hb he => by
    have := (dropF_mem.1 hp).2
    exact this (List.mem_filterMap.2 ⟨b, hb, he⟩)
  refine bun_ok hT hgd (L0 := L0) (f1 := f1) hL0sz hnodS hnd' hop' ?_ hmo hwf hs.len hob hF0 hheld ?_ B.length (B.map (·.1)) L0 a1 _ H (fun _ => pv undef) hnodS ?_ (by simp) hL0sz (fun _ _ _ => rfl) hcl1 (.refl _) hsd hde1 hsz1 (fun k s hk => hf1 k s (dropF_mem.1 hk).1) ?_
  · intro k hk
    have := List.all_eq_true.1 htail k (List.mem_range.2 (by rw [← hsize]; exact hk))
    simp only [Bool.or_eq_true, List.contains_iff_mem, List.all_eq_true] at this
    rcases this with (h1 | h1) | h1
    · exact .inl h1
    · exact .inr (.inl h1)
    · exact .inr (.inr h1)
  · intro H' a' w' V hle hs' hde' hsz' hV hf' hV2
    have hsome : ∀ b ∈ B, (dstOf ops b.1).isSome = true := fun b hb => by
      obtain ⟨o, dd, hok⟩ := opOk_ok (hop' b hb)
      have e1 : ops[b.1]? = some o := hok.op
      unfold dstOf; rw [e1]; simp [hok.dst]
    have h1 := finX_ok (hfin H' hle) V (fun b hb => ⟨hV b hb, hsome b hb⟩)
    have hff : FOk ρ ((B.filterMap fun b => (dstOf ops b.1).map fun d => (d, V b.1)).reverse ++ dropF (bDst ops B) F1) a'.tmps := by
      intro k sv hk
      rcases List.mem_append.1 hk with hk | hk
      · rw [List.mem_reverse, List.mem_filterMap] at hk
        obtain ⟨b, hb, hk⟩ := hk
        cases hdd : dstOf ops b.1 with
        | none => rw [hdd] at hk; cases hk
        | some dd =>
          rw [hdd] at hk
          simp only [Option.map_some, Option.some.injEq, Prod.mk.injEq] at hk
          obtain ⟨rfl, rfl⟩ := hk
          exact hV2 b hb _ hdd
      · exact hf' k sv hk
    have hmk3 : ∀ (k : Nat) (s : SB), Gm[k]? = some s → Tells s G[k]? := fun k s hk => (hmk.2 k s hk).imp (fun h => h) .inl
    exact drX_ok hT hsel hl0 hgd (Hp.Le.refl H) d false f1 _ hd _ H' G Gm h1 ρ a' w' hs' (.refl _) (.refl _ _) hle hff hde' hsz' (hheld H' w' hle hs') ⟨0, by simp⟩ hmk.1 hmk3
  · intro j
    constructor
    · intro hj
      obtain ⟨b, hb, rfl⟩ := List.mem_map.1 hj
      obtain ⟨o, dd, hok⟩ := opOk_ok (hop' b hb)
      exact ⟨hj, hok.un⟩
    · exact fun h => h.1
  · intro b hb hx
    obtain ⟨o, dd, hok⟩ := opOk_ok (hop' b hb)
    have hblt : b.1 < L0.size := by rw [hL0sz]; exact (Array.getElem?_eq_some_iff.1 hok.op).1
    rw [getD_any hblt false true] at hx
    have := hok.un
    simp only at this
    rw [this] at hx; cases hx
end
end Go.Kx
