/- The reference of layer 13: claims' text. No condition of its own. -/
import Derived.Test.YtdknmcaemebgfaaGreatDoorMY18
namespace Go.Kx.Rf
open Go.Proofs Go.Kx Go.RowKit Go.Kx.Js Go.Kx.Pr Go.Kx.Cl Go.Kx.Se Go.Kx.Lb Go.Kx.Jw Go.Kx.Ob
set_option maxRecDepth 20000
set_option linter.unusedSimpArgs false
namespace Tx
def T : Tab := [(9, { k := TK.string, agg := false, size := 1, bytes := 16, zero := [Z.s] }), (28, { k := TK.st [(0, 9, 1), (1, 9, 1), (2, 9, 1), (3, 3, 1), (4, 9, 1), (5, 9, 1), (6, 9, 1), (7, 9, 1), (8, 3, 1), (9, 9, 1)], agg := true, size := 10, bytes := 144, zero := [Z.s, Z.s, Z.s, Z.i IntKind.i64, Z.s, Z.s, Z.s, Z.s, Z.i IntKind.i64, Z.s] }), (3, { k := TK.int IntKind.i64, agg := false, size := 1, bytes := 8, zero := [Z.i IntKind.i64] }), (84, { k := TK.ar 6 9 1, agg := true, size := 6, bytes := 96, zero := [Z.s, Z.s, Z.s, Z.s, Z.s, Z.s] }), (4, { k := TK.bool, agg := false, size := 1, bytes := 1, zero := [Z.b] }), (5, { k := TK.int IntKind.u8, agg := false, size := 1, bytes := 1, zero := [Z.i IntKind.u8] }), (55, { k := TK.slice 5, agg := false, size := 1, bytes := 24, zero := [Z.sl] })]
set_option maxRecDepth 100000 in
theorem tab : TabOk Tryz.prog T := tabOk_mk (ts := [9, 28, 3, 84, 4, 5, 55]) (by kernel_rfl)
end Tx
theorem cl_w (c : Clm) : wrJ (clJ c) = ([123, 34, 105, 115, 115, 34, 58] : List UInt8) ++ (quoteB (tL c.iss) ++ (([44, 34, 106, 116, 105, 34, 58] : List UInt8) ++ (quoteB (tL c.jti) ++ (([44, 34, 105, 97, 116, 34, 58] : List UInt8) ++ ((Lb.itoaB c.iat).data.toList ++ (([44, 34, 97, 117, 100, 34, 58] : List UInt8) ++ (quoteB (tL c.aud) ++ (([44, 34, 116, 120, 110, 34, 58] : List UInt8) ++ (quoteB (tL c.txn) ++ (([44, 34, 115, 117, 98, 95, 105, 100, 34, 58] : List UInt8) ++ (wrJ (subJ c.sub) ++ (([44, 34, 101, 118, 101, 110, 116, 115, 34, 58, 123] : List UInt8) ++ (quoteB (tL (nameK c.kind)) ++ (([58] : List UInt8) ++ (wrJ (objJ (evMs c)) ++ ([125, 125] : List UInt8)))))))))))))))) := by
 have e : wrJ (numJ c.iat) = (Lb.itoaB c.iat).data.toList := by unfold numJ; simp [wrJ]
 have h : wrJ (clJ c) = [123] ++ wrMs true (clMs c) ++ [125] := by unfold clJ; generalize clMs c = m; simp only [objJ, wrJ]; rfl
 have h2 : wrJ (evJ c) = [123] ++ wrMs true [(nameK c.kind, objJ (evMs c))] ++ [125] := by unfold evJ; simp only [objJ, wrJ]; rfl
 rw [h]
 unfold clMs
 simp only [wrMs, wr_str, e]
 rw [h2]
 simp only [wrMs]
 rw [show quoteB sIss.data.toList = ([34, 105, 115, 115, 34] : List UInt8) from by decide +kernel, show quoteB sJti.data.toList = ([34, 106, 116, 105, 34] : List UInt8) from by decide +kernel, show quoteB sIat.data.toList = ([34, 105, 97, 116, 34] : List UInt8) from by decide +kernel, show quoteB sAud.data.toList = ([34, 97, 117, 100, 34] : List UInt8) from by decide +kernel, show quoteB sTxn.data.toList = ([34, 116, 120, 110, 34] : List UInt8) from by decide +kernel, show quoteB sSubId.data.toList = ([34, 115, 117, 98, 95, 105, 100, 34] : List UInt8) from by decide +kernel, show quoteB sEvents.data.toList = ([34, 101, 118, 101, 110, 116, 115, 34] : List UInt8) from by decide +kernel]
 unfold tL
 simp
theorem rs_w (c : Clm) (h : c.reason ≠ ⟨#[]⟩) : wrJ (objJ (evMs c)) = ([123, 34, 114, 101, 97, 115, 111, 110, 34, 58] : List UInt8) ++ (quoteB (tL c.reason) ++ ([125] : List UInt8)) := by
 unfold evMs
 rw [if_neg (by rw [strEq_iff]; exact h)]
 simp only [objJ, wrJ, wrMs, wr_str]
 rw [show quoteB sReason.data.toList = ([34, 114, 101, 97, 115, 111, 110, 34] : List UInt8) from by decide +kernel]
 unfold tL
 simp
theorem getC_of {G : List SC} {k : Nat} {s : SC} {K : SC → Prop} (h : G[k]? = some s) (hk : K s) : getC G k K := by
 induction G generalizing k with
 | nil => simp at h
 | cons a r ih =>
  cases k with
  | zero => simp only [List.getElem?_cons_zero, Option.some.injEq] at h; subst h; exact hk
  | succ k => exact ih (by simpa using h)
abbrev tails : List SC := [.val (.string (⟨#[99, 97, 101, 112, 47, 101, 118, 101, 110, 116, 45, 116, 121, 112, 101, 47, 115, 101, 115, 115, 105, 111, 110, 45, 114, 101, 118, 111, 107, 101, 100]⟩ : ByteArray)), .val (.string (⟨#[99, 97, 101, 112, 47, 101, 118, 101, 110, 116, 45, 116, 121, 112, 101, 47, 99, 114, 101, 100, 101, 110, 116, 105, 97, 108, 45, 99, 104, 97, 110, 103, 101]⟩ : ByteArray)), .val (.string (⟨#[114, 105, 115, 99, 47, 101, 118, 101, 110, 116, 45, 116, 121, 112, 101, 47, 97, 99, 99, 111, 117, 110, 116, 45, 100, 105, 115, 97, 98, 108, 101, 100]⟩ : ByteArray)), .val (.string (⟨#[114, 105, 115, 99, 47, 101, 118, 101, 110, 116, 45, 116, 121, 112, 101, 47, 97, 99, 99, 111, 117, 110, 116, 45, 101, 110, 97, 98, 108, 101, 100]⟩ : ByteArray)), .val (.string (⟨#[99, 97, 101, 112, 47, 101, 118, 101, 110, 116, 45, 116, 121, 112, 101, 47, 116, 111, 107, 101, 110, 45, 99, 108, 97, 105, 109, 115, 45, 99, 104, 97, 110, 103, 101]⟩ : ByteArray)), .val (.string (⟨#[115, 115, 101, 47, 101, 118, 101, 110, 116, 45, 116, 121, 112, 101, 47, 118, 101, 114, 105, 102, 105, 99, 97, 116, 105, 111, 110]⟩ : ByteArray))]
theorem tail_nm {k : Int} (h : 1 ≤ k ∧ k ≤ 6) : ∃ nm : ByteArray, tails[0 + (k - 1).toNat * 1]? = some (.val (.string nm)) ∧ nm.size ≤ 40 ∧ quoteB (tL (nameK k)) = ([34, 104, 116, 116, 112, 115, 58, 47, 47, 115, 99, 104, 101, 109, 97, 115, 46, 111, 112, 101, 110, 105, 100, 46, 110, 101, 116, 47, 115, 101, 99, 101, 118, 101, 110, 116, 47] : List UInt8) ++ (nm.data.toList ++ [34]) := by
 have h6 : k = 1 ∨ k = 2 ∨ k = 3 ∨ k = 4 ∨ k = 5 ∨ k = 6 := by omega
 rcases h6 with rfl | rfl | rfl | rfl | rfl | rfl <;> exact ⟨_, rfl, by decide, by decide +kernel⟩
theorem text_ (c : Clm) (h : RightC c) (H : Hp) : CallO Tryz.prog 15 [.si (.ag (cs10 c.iss c.jti c.aud c.iat c.txn c.sub.fmt c.sub.id c.sub.own c.kind c.reason))] H [] fun e H' G' => e = .ret (pv (.string ⟨(wrJ (clJ c)).toArray⟩)) ∧ H.Le H' ∧ G' = [] := by
 have k1 : 1 ≤ c.kind ∧ c.kind ≤ 6 := h.kind
 have b1 := (word_size h.iss).1
 have b2 := (word_size h.jti).1
 have b3 := (word_size h.aud).1
 have b4 := (word_size h.txn).1
 have hsub := h.sub
 have hiat := h.iat
 have hcw := cl_w c
 have hrw := rs_w c
 have hre : c.reason.size ≤ 256 := by rcases h.reason with e | e; rw [e]; decide; exact (word_size e).1
 obtain ⟨iss, jti, aud, iat, txn, ⟨sf, si, so⟩, kind, reason⟩ := c
 obtain ⟨txt, htx⟩ : ∃ t, t = wrJ (clJ ⟨iss, jti, aud, iat, txn, ⟨sf, si, so⟩, kind, reason⟩) := ⟨_, rfl⟩
 rw [← htx] at hcw ⊢
 dsimp only at *
 refine CallO.of_body Tx.tab Tryz.func15 rfl (nt := Tryz.f15.ntmps) rfl (by kernel_rfl) ?_
 (conv => whnf)
 obtain ⟨nm, hnm, hnz, hnq⟩ := tail_nm k1
 have hs3 : (Lb.itoaB iat).size ≤ 15 := by
  obtain ⟨m, rfl⟩ : ∃ m : Nat, iat = m := ⟨iat.toNat, by omega⟩
  exact Dg.itoa_le m (by omega)
 cases hrs : strEq reason ⟨#[]⟩
 ·(conv => whnf)
  refine ⟨⟨_, Tryz.func45, rfl, by kernel_rfl⟩, CallS.use (quoteS reason (by omega) H) [] rfl rfl trivial ?_⟩
  rintro e H2 G' hle ⟨⟨q, rfl, hq, hqs⟩, rfl, rfl⟩
  (conv => whnf)
  refine ⟨add_ok (n := 100) (by decide) hqs (by decide), ?_⟩
  (conv => whnf)
  refine ⟨add_ok (add_le (n := 100) (by decide) hqs) (m := 1) (by decide) (by decide), ?_⟩
  (conv => whnf)
  have hr1 : ((⟨([123, 34, 114, 101, 97, 115, 111, 110, 34, 58] : List UInt8).toArray⟩ : ByteArray) ++ q ++ ⟨#[125]⟩).data.toList = wrJ (objJ (evMs ⟨iss, jti, aud, iat, txn, ⟨sf, si, so⟩, kind, reason⟩)) := by
   rw [hrw ((strEq_false ..).1 hrs)]
   simp only [ByteArray.data_append, Array.toList_append, hq]
   simp
  have hr2 : ((⟨([123, 34, 114, 101, 97, 115, 111, 110, 34, 58] : List UInt8).toArray⟩ : ByteArray) ++ q ++ ⟨#[125]⟩).size ≤ 6201 := Nat.le_trans (add_le (add_le (n := 100) (by decide) hqs) (m := 1) (by decide)) (by decide)
  generalize (⟨([123, 34, 114, 101, 97, 115, 111, 110, 34, 58] : List UInt8).toArray⟩ : ByteArray) ++ q ++ ⟨#[125]⟩ = rs at hr1 hr2 ⊢
  refine WS.draw Tx.tab Rf.mixed (.take 0 (.take 1 (.take 5 (.take 6 (.take 10 (.take 11 (.take 15 (.take 16 (.take 20 (.take 21 (.take 25 (.take 29 (.take 30 (.take 31 (.take 32 (.take 33 (.take 36 (.alt 2 (.take 3 (.take 4 (.alt 7 (.take 8 (.take 9 (.alt 12 (.take 13 (.take 14 (.alt 17 (.take 18 (.take 19 (.alt 22 (.take 23 (.take 24 (.alt 26 (.take 27 (.take 28 (.take 34 (.take 35 (.take 37 (.take 38 (.take 39 .done))))))) .no))) .no))) .no))) .no))) .no))) .no)))))))))))))))))) (by kernel_rfl) [] ?_
  (conv => whnf)
  rw [wrap64 (x := kind - 1) (by omega) (by omega)]
  refine ⟨⟨by omega, by omega⟩, ?_⟩
  (conv => whnf)
  refine getC_of hnm ?_
  (conv => whnf)
  refine And.intro ?_ ?_ <;> (conv => whnf)
  rotate_left
  ·exact trivial
  refine ⟨⟨_, Tryz.func45, rfl, by kernel_rfl⟩, CallS.use (quoteS iss (by omega) _) [] rfl rfl trivial ?_⟩
  rintro e Hx1 G' hlex1 ⟨⟨q1, rfl, hq1, hs1⟩, rfl, rfl⟩
  (conv => whnf)
  refine ⟨⟨rfl, rfl, trivial⟩, ?_⟩
  (conv => whnf)
  refine ⟨add_ok (n := 100) (by decide) hs1 (by decide), ?_⟩
  (conv => whnf)
  refine ⟨add_ok (add_le (n := 100) (by decide) hs1) (m := 100) (by decide) (by decide), ?_⟩
  (conv => whnf)
  refine And.intro ?_ ?_ <;> (conv => whnf)
  rotate_left
  ·exact trivial
  refine ⟨⟨_, Tryz.func45, rfl, by kernel_rfl⟩, CallS.use (quoteS jti (by omega) _) [] rfl rfl trivial ?_⟩
  rintro e Hx2 G' hlex2 ⟨⟨q2, rfl, hq2, hs2⟩, rfl, rfl⟩
  (conv => whnf)
  refine ⟨⟨rfl, rfl, trivial⟩, ?_⟩
  (conv => whnf)
  refine ⟨add_ok (add_le (add_le (n := 100) (by decide) hs1) (m := 100) (by decide)) hs2 (by decide), ?_⟩
  (conv => whnf)
  refine ⟨add_ok (add_le (add_le (add_le (n := 100) (by decide) hs1) (m := 100) (by decide)) hs2) (m := 100) (by decide) (by decide), ?_⟩
  (conv => whnf)
  refine And.intro ?_ ?_ <;> (conv => whnf)
  rotate_left
  ·exact trivial
  refine ⟨⟨_, Tryz.func46, rfl, by kernel_rfl⟩, CallS.use (digits13 iat hiat.1 hiat.2 _) [] rfl rfl trivial ?_⟩
  rintro e Hx3 G' hlex3 ⟨rfl, rfl⟩
  (conv => whnf)
  refine ⟨⟨rfl, rfl, trivial⟩, ?_⟩
  (conv => whnf)
  refine ⟨add_ok (add_le (add_le (add_le (add_le (n := 100) (by decide) hs1) (m := 100) (by decide)) hs2) (m := 100) (by decide)) hs3 (by decide), ?_⟩
  (conv => whnf)
  refine ⟨add_ok (add_le (add_le (add_le (add_le (add_le (n := 100) (by decide) hs1) (m := 100) (by decide)) hs2) (m := 100) (by decide)) hs3) (m := 100) (by decide) (by decide), ?_⟩
  (conv => whnf)
  refine And.intro ?_ ?_ <;> (conv => whnf)
  rotate_left
  ·exact trivial
  refine ⟨⟨_, Tryz.func45, rfl, by kernel_rfl⟩, CallS.use (quoteS aud (by omega) _) [] rfl rfl trivial ?_⟩
  rintro e Hx4 G' hlex4 ⟨⟨q4, rfl, hq4, hs4⟩, rfl, rfl⟩
  (conv => whnf)
  refine ⟨⟨rfl, rfl, trivial⟩, ?_⟩
  (conv => whnf)
  refine ⟨add_ok (add_le (add_le (add_le (add_le (add_le (add_le (n := 100) (by decide) hs1) (m := 100) (by decide)) hs2) (m := 100) (by decide)) hs3) (m := 100) (by decide)) hs4 (by decide), ?_⟩
  (conv => whnf)
  refine ⟨add_ok (add_le (add_le (add_le (add_le (add_le (add_le (add_le (n := 100) (by decide) hs1) (m := 100) (by decide)) hs2) (m := 100) (by decide)) hs3) (m := 100) (by decide)) hs4) (m := 100) (by decide) (by decide), ?_⟩
  (conv => whnf)
  refine And.intro ?_ ?_ <;> (conv => whnf)
  rotate_left
  ·exact trivial
  refine ⟨⟨_, Tryz.func45, rfl, by kernel_rfl⟩, CallS.use (quoteS txn (by omega) _) [] rfl rfl trivial ?_⟩
  rintro e Hx5 G' hlex5 ⟨⟨q5, rfl, hq5, hs5⟩, rfl, rfl⟩
  (conv => whnf)
  refine ⟨⟨rfl, rfl, trivial⟩, ?_⟩
  (conv => whnf)
  refine ⟨add_ok (add_le (add_le (add_le (add_le (add_le (add_le (add_le (add_le (n := 100) (by decide) hs1) (m := 100) (by decide)) hs2) (m := 100) (by decide)) hs3) (m := 100) (by decide)) hs4) (m := 100) (by decide)) hs5 (by decide), ?_⟩
  (conv => whnf)
  refine ⟨add_ok (add_le (add_le (add_le (add_le (add_le (add_le (add_le (add_le (add_le (n := 100) (by decide) hs1) (m := 100) (by decide)) hs2) (m := 100) (by decide)) hs3) (m := 100) (by decide)) hs4) (m := 100) (by decide)) hs5) (m := 100) (by decide) (by decide), ?_⟩
  (conv => whnf)
  refine And.intro ?_ ?_ <;> (conv => whnf)
  rotate_left
  ·exact trivial
  refine ⟨⟨_, Tryz.func47, rfl, by kernel_rfl⟩, CallS.use (about iss jti aud iat txn ⟨sf, si, so⟩ kind reason hsub _) [] rfl rfl trivial ?_⟩
  rintro e Hx6 G' hlex6 ⟨⟨q6, rfl, hq6, hs6⟩, hle6, rfl⟩
  (conv => whnf)
  refine ⟨⟨rfl, rfl, trivial⟩, ?_⟩
  (conv => whnf)
  refine ⟨add_ok (add_le (add_le (add_le (add_le (add_le (add_le (add_le (add_le (add_le (add_le (n := 100) (by decide) hs1) (m := 100) (by decide)) hs2) (m := 100) (by decide)) hs3) (m := 100) (by decide)) hs4) (m := 100) (by decide)) hs5) (m := 100) (by decide)) hs6 (by decide), ?_⟩
  (conv => whnf)
  refine ⟨add_ok (add_le (add_le (add_le (add_le (add_le (add_le (add_le (add_le (add_le (add_le (add_le (n := 100) (by decide) hs1) (m := 100) (by decide)) hs2) (m := 100) (by decide)) hs3) (m := 100) (by decide)) hs4) (m := 100) (by decide)) hs5) (m := 100) (by decide)) hs6) (m := 100) (by decide) (by decide), ?_⟩
  (conv => whnf)
  refine ⟨add_ok (add_le (add_le (add_le (add_le (add_le (add_le (add_le (add_le (add_le (add_le (add_le (add_le (n := 100) (by decide) hs1) (m := 100) (by decide)) hs2) (m := 100) (by decide)) hs3) (m := 100) (by decide)) hs4) (m := 100) (by decide)) hs5) (m := 100) (by decide)) hs6) (m := 100) (by decide)) hnz (by decide), ?_⟩
  (conv => whnf)
  refine ⟨add_ok (add_le (add_le (add_le (add_le (add_le (add_le (add_le (add_le (add_le (add_le (add_le (add_le (add_le (n := 100) (by decide) hs1) (m := 100) (by decide)) hs2) (m := 100) (by decide)) hs3) (m := 100) (by decide)) hs4) (m := 100) (by decide)) hs5) (m := 100) (by decide)) hs6) (m := 100) (by decide)) hnz) (m := 100) (by decide) (by decide), ?_⟩
  (conv => whnf)
  refine ⟨add_ok (add_le (add_le (add_le (add_le (add_le (add_le (add_le (add_le (add_le (add_le (add_le (add_le (add_le (add_le (n := 100) (by decide) hs1) (m := 100) (by decide)) hs2) (m := 100) (by decide)) hs3) (m := 100) (by decide)) hs4) (m := 100) (by decide)) hs5) (m := 100) (by decide)) hs6) (m := 100) (by decide)) hnz) (m := 100) (by decide)) hr2 (by decide), ?_⟩
  (conv => whnf)
  refine ⟨add_ok (add_le (add_le (add_le (add_le (add_le (add_le (add_le (add_le (add_le (add_le (add_le (add_le (add_le (add_le (add_le (n := 100) (by decide) hs1) (m := 100) (by decide)) hs2) (m := 100) (by decide)) hs3) (m := 100) (by decide)) hs4) (m := 100) (by decide)) hs5) (m := 100) (by decide)) hs6) (m := 100) (by decide)) hnz) (m := 100) (by decide)) hr2) (m := 100) (by decide) (by decide), ?_⟩
  (conv => whnf)
  refine ⟨?_, ((((hlex1.trans hlex2).trans hlex3).trans hlex4).trans hlex5).trans hlex6, rfl⟩
  refine congrArg (fun s : ByteArray => SE.ret (pv (.string s))) ?_
  apply ByteArray.ext
  refine Array.toList_inj.1 ?_
  rw [hcw, hnq, ← hr1, ← hq1, ← hq2, ← hq4, ← hq5, ← hq6]
  simp only [ByteArray.data_append, Array.toList_append, List.append_assoc]
  simp
 ·(conv => whnf)
  have hr1 : (⟨#[123, 125]⟩ : ByteArray).data.toList = wrJ (objJ (evMs ⟨iss, jti, aud, iat, txn, ⟨sf, si, so⟩, kind, reason⟩)) := by
   unfold evMs
   rw [if_pos hrs]
   rfl
  have hr2 : (⟨#[123, 125]⟩ : ByteArray).size ≤ 6201 := by decide
  generalize (⟨#[123, 125]⟩ : ByteArray) = rs at hr1 hr2 ⊢
  refine WS.draw Tx.tab Rf.mixed (.take 0 (.take 1 (.take 5 (.take 6 (.take 10 (.take 11 (.take 15 (.take 16 (.take 20 (.take 21 (.take 25 (.take 29 (.take 30 (.take 31 (.take 32 (.take 33 (.take 36 (.alt 2 (.take 3 (.take 4 (.alt 7 (.take 8 (.take 9 (.alt 12 (.take 13 (.take 14 (.alt 17 (.take 18 (.take 19 (.alt 22 (.take 23 (.take 24 (.alt 26 (.take 27 (.take 28 (.take 34 (.take 35 (.take 37 (.take 38 (.take 39 .done))))))) .no))) .no))) .no))) .no))) .no))) .no)))))))))))))))))) (by kernel_rfl) [] ?_
  (conv => whnf)
  rw [wrap64 (x := kind - 1) (by omega) (by omega)]
  refine ⟨⟨by omega, by omega⟩, ?_⟩
  (conv => whnf)
  refine getC_of hnm ?_
  (conv => whnf)
  refine And.intro ?_ ?_ <;> (conv => whnf)
  rotate_left
  ·exact trivial
  refine ⟨⟨_, Tryz.func45, rfl, by kernel_rfl⟩, CallS.use (quoteS iss (by omega) _) [] rfl rfl trivial ?_⟩
  rintro e Hx1 G' hlex1 ⟨⟨q1, rfl, hq1, hs1⟩, rfl, rfl⟩
  (conv => whnf)
  refine ⟨⟨rfl, rfl, trivial⟩, ?_⟩
  (conv => whnf)
  refine ⟨add_ok (n := 100) (by decide) hs1 (by decide), ?_⟩
  (conv => whnf)
  refine ⟨add_ok (add_le (n := 100) (by decide) hs1) (m := 100) (by decide) (by decide), ?_⟩
  (conv => whnf)
  refine And.intro ?_ ?_ <;> (conv => whnf)
  rotate_left
  ·exact trivial
  refine ⟨⟨_, Tryz.func45, rfl, by kernel_rfl⟩, CallS.use (quoteS jti (by omega) _) [] rfl rfl trivial ?_⟩
  rintro e Hx2 G' hlex2 ⟨⟨q2, rfl, hq2, hs2⟩, rfl, rfl⟩
  (conv => whnf)
  refine ⟨⟨rfl, rfl, trivial⟩, ?_⟩
  (conv => whnf)
  refine ⟨add_ok (add_le (add_le (n := 100) (by decide) hs1) (m := 100) (by decide)) hs2 (by decide), ?_⟩
  (conv => whnf)
  refine ⟨add_ok (add_le (add_le (add_le (n := 100) (by decide) hs1) (m := 100) (by decide)) hs2) (m := 100) (by decide) (by decide), ?_⟩
  (conv => whnf)
  refine And.intro ?_ ?_ <;> (conv => whnf)
  rotate_left
  ·exact trivial
  refine ⟨⟨_, Tryz.func46, rfl, by kernel_rfl⟩, CallS.use (digits13 iat hiat.1 hiat.2 _) [] rfl rfl trivial ?_⟩
  rintro e Hx3 G' hlex3 ⟨rfl, rfl⟩
  (conv => whnf)
  refine ⟨⟨rfl, rfl, trivial⟩, ?_⟩
  (conv => whnf)
  refine ⟨add_ok (add_le (add_le (add_le (add_le (n := 100) (by decide) hs1) (m := 100) (by decide)) hs2) (m := 100) (by decide)) hs3 (by decide), ?_⟩
  (conv => whnf)
  refine ⟨add_ok (add_le (add_le (add_le (add_le (add_le (n := 100) (by decide) hs1) (m := 100) (by decide)) hs2) (m := 100) (by decide)) hs3) (m := 100) (by decide) (by decide), ?_⟩
  (conv => whnf)
  refine And.intro ?_ ?_ <;> (conv => whnf)
  rotate_left
  ·exact trivial
  refine ⟨⟨_, Tryz.func45, rfl, by kernel_rfl⟩, CallS.use (quoteS aud (by omega) _) [] rfl rfl trivial ?_⟩
  rintro e Hx4 G' hlex4 ⟨⟨q4, rfl, hq4, hs4⟩, rfl, rfl⟩
  (conv => whnf)
  refine ⟨⟨rfl, rfl, trivial⟩, ?_⟩
  (conv => whnf)
  refine ⟨add_ok (add_le (add_le (add_le (add_le (add_le (add_le (n := 100) (by decide) hs1) (m := 100) (by decide)) hs2) (m := 100) (by decide)) hs3) (m := 100) (by decide)) hs4 (by decide), ?_⟩
  (conv => whnf)
  refine ⟨add_ok (add_le (add_le (add_le (add_le (add_le (add_le (add_le (n := 100) (by decide) hs1) (m := 100) (by decide)) hs2) (m := 100) (by decide)) hs3) (m := 100) (by decide)) hs4) (m := 100) (by decide) (by decide), ?_⟩
  (conv => whnf)
  refine And.intro ?_ ?_ <;> (conv => whnf)
  rotate_left
  ·exact trivial
  refine ⟨⟨_, Tryz.func45, rfl, by kernel_rfl⟩, CallS.use (quoteS txn (by omega) _) [] rfl rfl trivial ?_⟩
  rintro e Hx5 G' hlex5 ⟨⟨q5, rfl, hq5, hs5⟩, rfl, rfl⟩
  (conv => whnf)
  refine ⟨⟨rfl, rfl, trivial⟩, ?_⟩
  (conv => whnf)
  refine ⟨add_ok (add_le (add_le (add_le (add_le (add_le (add_le (add_le (add_le (n := 100) (by decide) hs1) (m := 100) (by decide)) hs2) (m := 100) (by decide)) hs3) (m := 100) (by decide)) hs4) (m := 100) (by decide)) hs5 (by decide), ?_⟩
  (conv => whnf)
  refine ⟨add_ok (add_le (add_le (add_le (add_le (add_le (add_le (add_le (add_le (add_le (n := 100) (by decide) hs1) (m := 100) (by decide)) hs2) (m := 100) (by decide)) hs3) (m := 100) (by decide)) hs4) (m := 100) (by decide)) hs5) (m := 100) (by decide) (by decide), ?_⟩
  (conv => whnf)
  refine And.intro ?_ ?_ <;> (conv => whnf)
  rotate_left
  ·exact trivial
  refine ⟨⟨_, Tryz.func47, rfl, by kernel_rfl⟩, CallS.use (about iss jti aud iat txn ⟨sf, si, so⟩ kind reason hsub _) [] rfl rfl trivial ?_⟩
  rintro e Hx6 G' hlex6 ⟨⟨q6, rfl, hq6, hs6⟩, hle6, rfl⟩
  (conv => whnf)
  refine ⟨⟨rfl, rfl, trivial⟩, ?_⟩
  (conv => whnf)
  refine ⟨add_ok (add_le (add_le (add_le (add_le (add_le (add_le (add_le (add_le (add_le (add_le (n := 100) (by decide) hs1) (m := 100) (by decide)) hs2) (m := 100) (by decide)) hs3) (m := 100) (by decide)) hs4) (m := 100) (by decide)) hs5) (m := 100) (by decide)) hs6 (by decide), ?_⟩
  (conv => whnf)
  refine ⟨add_ok (add_le (add_le (add_le (add_le (add_le (add_le (add_le (add_le (add_le (add_le (add_le (n := 100) (by decide) hs1) (m := 100) (by decide)) hs2) (m := 100) (by decide)) hs3) (m := 100) (by decide)) hs4) (m := 100) (by decide)) hs5) (m := 100) (by decide)) hs6) (m := 100) (by decide) (by decide), ?_⟩
  (conv => whnf)
  refine ⟨add_ok (add_le (add_le (add_le (add_le (add_le (add_le (add_le (add_le (add_le (add_le (add_le (add_le (n := 100) (by decide) hs1) (m := 100) (by decide)) hs2) (m := 100) (by decide)) hs3) (m := 100) (by decide)) hs4) (m := 100) (by decide)) hs5) (m := 100) (by decide)) hs6) (m := 100) (by decide)) hnz (by decide), ?_⟩
  (conv => whnf)
  refine ⟨add_ok (add_le (add_le (add_le (add_le (add_le (add_le (add_le (add_le (add_le (add_le (add_le (add_le (add_le (n := 100) (by decide) hs1) (m := 100) (by decide)) hs2) (m := 100) (by decide)) hs3) (m := 100) (by decide)) hs4) (m := 100) (by decide)) hs5) (m := 100) (by decide)) hs6) (m := 100) (by decide)) hnz) (m := 100) (by decide) (by decide), ?_⟩
  (conv => whnf)
  refine ⟨add_ok (add_le (add_le (add_le (add_le (add_le (add_le (add_le (add_le (add_le (add_le (add_le (add_le (add_le (add_le (n := 100) (by decide) hs1) (m := 100) (by decide)) hs2) (m := 100) (by decide)) hs3) (m := 100) (by decide)) hs4) (m := 100) (by decide)) hs5) (m := 100) (by decide)) hs6) (m := 100) (by decide)) hnz) (m := 100) (by decide)) hr2 (by decide), ?_⟩
  (conv => whnf)
  refine ⟨add_ok (add_le (add_le (add_le (add_le (add_le (add_le (add_le (add_le (add_le (add_le (add_le (add_le (add_le (add_le (add_le (n := 100) (by decide) hs1) (m := 100) (by decide)) hs2) (m := 100) (by decide)) hs3) (m := 100) (by decide)) hs4) (m := 100) (by decide)) hs5) (m := 100) (by decide)) hs6) (m := 100) (by decide)) hnz) (m := 100) (by decide)) hr2) (m := 100) (by decide) (by decide), ?_⟩
  (conv => whnf)
  refine ⟨?_, ((((hlex1.trans hlex2).trans hlex3).trans hlex4).trans hlex5).trans hlex6, rfl⟩
  refine congrArg (fun s : ByteArray => SE.ret (pv (.string s))) ?_
  apply ByteArray.ext
  refine Array.toList_inj.1 ?_
  rw [hcw, hnq, ← hr1, ← hq1, ← hq2, ← hq4, ← hq5, ← hq6]
  simp only [ByteArray.data_append, Array.toList_append, List.append_assoc]
  simp
end Go.Kx.Rf
namespace Go.Kx.L13
open Go.Proofs Go.Kx Go.RowKit Go.Kx.Js Go.Kx.Pr Go.Kx.Rt Go.Kx.Ob Go.Kx.Wo Go.Kx.Cl Go.Kx.Su Go.Kx.Se Go.Kx.Jw
set_option maxRecDepth 20000
set_option linter.unusedSimpArgs false
namespace Li
def T : Tab := [(9, { k := TK.string, agg := false, size := 1, bytes := 16, zero := [Z.s] }), (3, { k := TK.int IntKind.i64, agg := false, size := 1, bytes := 8, zero := [Z.i IntKind.i64] }), (25, { k := TK.st [(0, 9, 1), (1, 9, 1), (2, 9, 1), (3, 3, 1), (4, 9, 1), (5, 23, 3), (8, 3, 1), (9, 9, 1)], agg := true, size := 10, bytes := 144, zero := [Z.s, Z.s, Z.s, Z.i IntKind.i64, Z.s, Z.s, Z.s, Z.s, Z.i IntKind.i64, Z.s] }), (28, { k := TK.st [(0, 9, 1), (1, 9, 1), (2, 9, 1), (3, 3, 1), (4, 9, 1), (5, 9, 1), (6, 9, 1), (7, 9, 1), (8, 3, 1), (9, 9, 1)], agg := true, size := 10, bytes := 144, zero := [Z.s, Z.s, Z.s, Z.i IntKind.i64, Z.s, Z.s, Z.s, Z.s, Z.i IntKind.i64, Z.s] }), (23, { k := TK.st [(0, 9, 1), (1, 9, 1), (2, 9, 1)], agg := true, size := 3, bytes := 48, zero := [Z.s, Z.s, Z.s] }), (4, { k := TK.bool, agg := false, size := 1, bytes := 1, zero := [Z.b] }), (62, { k := TK.slice 9, agg := false, size := 1, bytes := 24, zero := [Z.sl] })]
set_option maxRecDepth 100000 in
theorem tab : TabOk Tryz.prog T := tabOk_mk (ts := [9, 3, 25, 28, 23, 4, 62]) (by kernel_rfl)
end Li
def szs (c : Clm) : List ByteArray := [c.jti, c.aud, c.txn, c.sub.fmt, c.sub.id, c.sub.own, c.reason]
theorem listed0 (c : Clm) (H : Hp) : CallO Tryz.prog 9 [agC c] H [] fun e H' G' => (∃ b : Bool, e = .ret (.tu [.ag (csC c), .ce (.val (.bool b))]) ∧ (b = true → c.iss.size ≤ 300 ∧ ∀ s ∈ szs c, s.size ≤ 300)) ∧ H.Le H' ∧ G' = [] := by
 refine CallO.of_body Li.tab Tryz.func9 rfl (nt := Tryz.f9.ntmps) rfl (by kernel_rfl) ?_
 (conv => whnf)
 refine ⟨by decide, .inl ?_⟩
 intro g H2 hle hrd
 have hv : Pa.VAt H2 (some { block := g, off := 0 }) 7 ((szs c).map Value.string) := ⟨rfl, fun e => (nomatch e), fun a e => by injection e with e; subst e; exact hrd⟩
 (conv => whnf)
 refine WS.loop (fun k F H3 G => ∃ (j : Nat) (m : Int), j ≤ 7 ∧ (c.iss.size : Int) ≤ m ∧ (∀ i s, i < j → (szs c)[i]? = some s → (s.size : Int) ≤ m) ∧ k = 7 - j ∧ F = [(1, .si (.ce (.ptr 0 0))), (2, .si (.ce (.ptr 1 0))), (4, pv (.int .i64 m)), (27, pv (.slice (some { block := g, off := 0 }) 7 7)), (28, pv (.int .i64 7)), (29, pv (.int .i64 j))] ∧ H2.Le H3 ∧ G = [.box 25 (csC c), .box 28 (csC clm0)]) 8 ?_ ?_
 ·refine ⟨7, by omega, _, _, [0, 1], ⟨0, c.iss.size, by omega, Int.le_refl _, fun i s hi => absurd hi (by omega), rfl, rfl, .refl _, rfl⟩, ?_⟩
  exact ⟨rfl, ⟨rfl, rfl, trivial⟩, rfl, rfl, rfl, rfl, rfl, rfl, trivial⟩
 rintro k F H3 G hle3 ⟨j, m, hj, hm, hs, rfl, rfl, hle4, rfl⟩
 refine codeL.go Li.tab ?_
 (conv => whnf)
 refine br.of (fun h1 => ?_) (fun h1 => ?_) <;> (conv => whnf)
 ·have h1 := of_decide_eq_true h1
  obtain ⟨s, hsj⟩ : ∃ s, (szs c)[j]? = some s := ⟨_, List.getElem?_eq_getElem (by show j < 7; omega)⟩
  refine ⟨⟨by omega, by omega⟩, hv.addr (by decide), ?_⟩
  (conv => whnf)
  refine ⟨_, (hv.mono hle4).get (show ((szs c).map Value.string)[j]? = some (.string s) by rw [List.getElem?_map, hsj]; rfl) (by show (j : Int).toNat * 1 = j; omega), ?_⟩
  (conv => whnf)
  rw [wrap64 (x := (j : Int) + 1) (by omega) (by omega)]
  refine ⟨7 - (j + 1), by omega, _, _, [0, 1], ⟨j + 1, maxB m s.size, by omega, ?_, fun i u hi hu => ?_, rfl, rfl, hle4, rfl⟩, ?_⟩
  ·unfold maxB; split <;> omega
  ·rcases Nat.lt_or_ge i j with hij | hij
   ·have := hs i u hij hu
    unfold maxB; split <;> omega
   ·obtain rfl : i = j := by omega
    rw [hsj] at hu
    injection hu with hu
    subst hu
    unfold maxB; split <;> omega
  ·exact ⟨rfl, ⟨rfl, rfl, trivial⟩, rfl, rfl, rfl, rfl, rfl, rfl, trivial⟩
 ·have h1 := of_decide_eq_false h1
  obtain rfl : j = 7 := by omega
  refine ⟨⟨_, rfl, fun hb => ?_⟩, hle.trans hle4, rfl⟩
  have hb : m ≤ 300 := of_decide_eq_true hb
  refine ⟨by omega, fun s hs' => ?_⟩
  obtain ⟨i, hi, rfl⟩ := List.getElem_of_mem hs'
  have := hs i _ hi (List.getElem?_eq_getElem hi)
  omega
end Go.Kx.L13
namespace Go.Kx.L13
open Go.Proofs Go.Kx Go.RowKit Go.Kx.Js Go.Kx.Pr Go.Kx.Rt Go.Kx.Ob Go.Kx.Wo Go.Kx.Cl Go.Kx.Su Go.Kx.Se Go.Kx.Jw
set_option maxRecDepth 20000
set_option linter.unusedSimpArgs false
theorem listed_fit {c : Clm} (h : c.iss.size ≤ 300 ∧ ∀ s ∈ szs c, s.size ≤ 300) (hn : (Lit.int .i64 c.iat).wf = true) (hk : (Lit.int .i64 c.kind).wf = true) : Rf.FitT c ∧ FitC c := by
 obtain ⟨h1, h2⟩ := h
 have w : ∀ s ∈ szs c, s.size ≤ 300 := h2
 have a1 := w c.jti (by simp [szs])
 have a2 := w c.aud (by simp [szs])
 have a3 := w c.txn (by simp [szs])
 have a4 := w c.sub.fmt (by simp [szs])
 have a5 := w c.sub.id (by simp [szs])
 have a6 := w c.sub.own (by simp [szs])
 have a7 := w c.reason (by simp [szs])
 have m : 300 ≤ maxLen := by decide
 exact ⟨⟨by omega, by omega, by omega, by omega, by omega, by omega, by omega, by omega⟩, ⟨by omega, by omega, by omega, hn, by omega, by omega, by omega, by omega, hk, by omega⟩⟩
theorem kind_wf {k : Int} (h : (Lit.int .i64 k).wf = true) : -9223372036854775808 ≤ k ∧ k ≤ 9223372036854775807 := by
 have h1 : IntKind.i64.min ≤ k ∧ k ≤ IntKind.i64.max := by simpa [Lit.wf] using h
 rwa [show IntKind.i64.min = -9223372036854775808 by decide, show IntKind.i64.max = 9223372036854775807 by decide] at h1
end Go.Kx.L13
namespace Go.Kx.Ln
open Go.Proofs Go.Kx Go.RowKit Go.Kx.Js Go.Kx.Pr Go.Kx.Cl Go.Kx.Se Go.Kx.Lb Go.Kx.Ob Go.Kx.L13
set_option maxRecDepth 20000
set_option linter.unusedSimpArgs false
namespace Sl
def T : Tab := [(9, { k := TK.string, agg := false, size := 1, bytes := 16, zero := [Z.s] }), (3, { k := TK.int IntKind.i64, agg := false, size := 1, bytes := 8, zero := [Z.i IntKind.i64] }), (25, { k := TK.st [(0, 9, 1), (1, 9, 1), (2, 9, 1), (3, 3, 1), (4, 9, 1), (5, 23, 3), (8, 3, 1), (9, 9, 1)], agg := true, size := 10, bytes := 144, zero := [Z.s, Z.s, Z.s, Z.i IntKind.i64, Z.s, Z.s, Z.s, Z.s, Z.i IntKind.i64, Z.s] }), (28, { k := TK.st [(0, 9, 1), (1, 9, 1), (2, 9, 1), (3, 3, 1), (4, 9, 1), (5, 9, 1), (6, 9, 1), (7, 9, 1), (8, 3, 1), (9, 9, 1)], agg := true, size := 10, bytes := 144, zero := [Z.s, Z.s, Z.s, Z.i IntKind.i64, Z.s, Z.s, Z.s, Z.s, Z.i IntKind.i64, Z.s] }), (23, { k := TK.st [(0, 9, 1), (1, 9, 1), (2, 9, 1)], agg := true, size := 3, bytes := 48, zero := [Z.s, Z.s, Z.s] }), (5, { k := TK.int IntKind.u8, agg := false, size := 1, bytes := 1, zero := [Z.i IntKind.u8] }), (55, { k := TK.slice 5, agg := false, size := 1, bytes := 24, zero := [Z.sl] }), (62, { k := TK.slice 9, agg := false, size := 1, bytes := 24, zero := [Z.sl] }), (4, { k := TK.bool, agg := false, size := 1, bytes := 1, zero := [Z.b] }), (35, { k := TK.int IntKind.i64, agg := false, size := 1, bytes := 8, zero := [Z.i IntKind.i64] })]
set_option maxRecDepth 100000 in
theorem tab : TabOk Tryz.prog T := tabOk_mk (ts := [9, 3, 25, 28, 23, 5, 55, 62, 4, 35]) (by kernel_rfl)
end Sl
def stL (c : Clm) (F : Fr) (_ : Hp) (G : List SB) : Prop := RightC c ∧ ∃ s, s = lineT c ∧
 F = [(1, .si (.ce (.ptr 0 0))), (5, pv (.string (mapB (lineT c)))), (6, pv (.int .i64 0)), (7, pv (.string (shortK c.kind))), (8, pv (.string s))] ∧ G = [.box 25 (csC c)]
theorem line_pos (c : Clm) : 0 < (lineT c).size := by
 have z1 : (⟨#[32]⟩ : ByteArray).size = 1 := rfl
 unfold lineT lineS
 split <;> simp only [ByteArray.size_append, z1] <;> omega
noncomputable def slC : Code := Tryz.f7.body.getD .skip
def mixL (l : List UInt8) (i : Nat) : List UInt8 := (l.take i).map low ++ l.drop i
theorem mix_len (l : List UInt8) (i : Nat) : (mixL l i).length = l.length := by
 unfold mixL
 rw [List.length_append, List.length_map, List.length_take, List.length_drop]
 omega
theorem mix_get {l : List UInt8} {i : Nat} {b : UInt8} (h : l[i]? = some b) : (mixL l i)[i]? = some b := by
 have hi := (List.getElem?_eq_some_iff.1 h).1
 unfold mixL
 rw [List.getElem?_append_right (by rw [List.length_map, List.length_take]; omega), List.length_map, List.length_take, List.getElem?_drop, ← h]
 congr 1
 omega
theorem mix_step {l : List UInt8} {i : Nat} {b : UInt8} (h : l[i]? = some b) : mixL l (i + 1) = (mixL l i).set i (low b) := by
 have hi := (List.getElem?_eq_some_iff.1 h).1
 have hb : l[i] = b := by rw [List.getElem?_eq_getElem hi] at h; injection h
 have hl : ((l.take i).map low).length = i := by rw [List.length_map, List.length_take]; omega
 unfold mixL
 rw [List.set_append_right _ _ (by omega), hl, Nat.sub_self, List.take_add_one, h, List.drop_eq_getElem_cons hi, hb]
 simp
theorem mix_end (l : List UInt8) {i : Nat} (h : l.length ≤ i) : mixL l i = l.map low := by
 unfold mixL
 rw [List.take_of_length_le h, List.drop_of_length_le h, List.append_nil]
theorem bc_set (l : List UInt8) (i : Nat) (b : UInt8) (hi : i < l.length) : splice (bCells l) i [.int .u8 b.toNat] = bCells (l.set i b) := by
 unfold splice bCells
 rw [List.map_set, List.set_eq_take_append_cons_drop, if_pos (by rw [List.length_map]; exact hi)]
 simp
def stN (c : Clm) (F : Fr) (_ : Hp) (G : List SB) : Prop := RightC c ∧
 F = [(1, .si (.ce (.ptr 0 0))), (5, pv (.string (mapB (lineT c)))), (6, pv (.int .i64 0)), (7, pv (.string (shortK c.kind))), (9, .si (.ce (.self 1)))] ∧ G = [.box 25 (csC c), .byt 5 (lineT c).size (bCells ((lineT c).data.toList.map low))]
theorem linesA (c : Clm) {K : KT} {F : Fr} {H1 : Hp} {G : List SB} (h1 : stL c F H1 G)
  (h2 : ∀ F' H' G', H1.Le H' → stN c F' H' G' → codeL Tryz.prog Tryz.f7.ntmps 0 .none (tailC slC 11) K F' H' G') : codeL Tryz.prog Tryz.f7.ntmps 0 .none (tailC slC 9) K F H1 G := by
 obtain ⟨hR, s, rfl, rfl, rfl⟩ := h1
 have hsz := line_size hR
 have h2 : ∀ F' H' G', H1.Le H' → stN c F' H' G' → codeL Tryz.prog Tryz.f7.ntmps 0 .none (tailC (tailC slC 9) 2) K F' H' G' := h2
 refine codeL.veil 8 (.string (lineT c)) rfl rfl ?_
 refine codeL.cutTo Sl.tab 2 (stN c) ?_ h2
 obtain ⟨l, hl⟩ : ∃ l, (lineT c).data.toList = l := ⟨_, rfl⟩
 have hll : l.length = (lineT c).size := by rw [← hl, Array.length_toList]; rfl
 (conv => whnf)
 change LO _ _ _ _ _ _ _
 refine LO.s2bByt (s := 9) (d := 55) (t := 5) (x := .tmp 69) (str := lineT c) ?_ Tryz.underlying9 Tryz.underlying55 Tryz.underlying5 1 ?_ ?_ ?_
 ·rfl
 ·rfl
 ·rfl
 (conv => whnf)
 have hbc : byteCells (lineT c) = bCells (mixL l 0) := by rw [byteCells_map, hl]; unfold bCells mixL; simp
 refine WS.loop (fun k' F H5 G => ∃ i : Nat, i ≤ l.length ∧ k' = l.length - i ∧ F = [(1, .si (.ce (.ptr 0 0))), (5, pv (.string (mapB (lineT c)))), (6, pv (.int .i64 0)), (7, pv (.string (shortK c.kind))), (9, .si (.ce (.self 1))), (71, .si (.ce (.self 1))), (72, pv (.int .i64 (lineT c).size)), (73, pv (.int .i64 i))] ∧ H1.Le H5 ∧
   G = [.box 25 (csC c), .byt 5 (lineT c).size (bCells (mixL l i))]) (l.length + 1) ?_ ?_
 ·refine ⟨l.length, by omega, _, _, [0, 2], ⟨0, by omega, rfl, rfl, .refl _, rfl⟩, ?_⟩
  exact ⟨rfl, ⟨rfl, by rw [← hbc]; rfl, trivial⟩, rfl, rfl, rfl, rfl, rfl, rfl, rfl, rfl, trivial⟩
 rintro k' F H5 G hle5 ⟨i, hi, rfl, rfl, hle5', rfl⟩
 refine codeL.go Sl.tab ?_
 (conv => whnf)
 refine br.of (fun h7 => ?_) (fun h7 => ?_) <;> (conv => whnf)
 rotate_left
 ·have h7 := of_decide_eq_false h7
  refine ⟨_, _, [0, 1], ⟨hR, rfl, rfl⟩, ?_⟩
  exact ⟨rfl, ⟨rfl, by rw [hl, mix_end l (by omega)]; rfl, trivial⟩, rfl, rfl, rfl, rfl, rfl, trivial⟩
 have h7 := of_decide_eq_true h7
 have hil : i < l.length := by omega
 obtain ⟨b, hb⟩ : ∃ b, l[i]? = some b := ⟨_, List.getElem?_eq_getElem hil⟩
 have hmg := mix_get hb
 have hms := mix_step hb
 have hcell : (bCells (mixL l i))[i]? = some (.int .u8 b.toNat) := by unfold bCells; rw [List.getElem?_map, hmg]; rfl
 have hxl : (bCells (mixL l i)).length = l.length := by unfold bCells; rw [List.length_map, mix_len]
 refine ⟨⟨by omega, by omega⟩, ?_⟩
 (conv => whnf)
 refine ⟨.int .u8 b.toNat, by show (bCells (mixL l i))[(i : Int).toNat * 1]? = _; rw [show (i : Int).toNat * 1 = i by omega]; exact hcell, ?_⟩
 (conv => whnf)
 refine br.of (fun h8 => ?_) (fun h8 => ?_) <;> (conv => whnf)
 ·have h8 := of_decide_eq_true h8
  have hlow : low b = 32 := by unfold low; rw [if_pos (by rw [UInt8.lt_iff_toNat_lt]; show b.toNat < 32; omega)]
  refine ⟨⟨by omega, by omega⟩, ?_⟩
  (conv => whnf)
  refine ⟨⟨rfl, by show (i : Int).toNat * 1 < _; rw [hxl]; omega⟩, ?_⟩
  (conv => whnf)
  rw [wrap64 (x := (i : Int) + 1) (by omega) (by omega)]
  refine ⟨l.length - (i + 1), by omega, _, _, [0, 1], ⟨i + 1, by omega, rfl, rfl, hle5', rfl⟩, ?_⟩
  have hsp : splice (bCells (mixL l i)) ((i : Int).toNat * 1) [.int .u8 32] = bCells (mixL l (i + 1)) := by
   rw [show (i : Int).toNat * 1 = i by omega, hms, hlow]
   exact bc_set _ i 32 (by rw [mix_len]; exact hil)
  exact ⟨rfl, ⟨rfl, by rw [← hsp]; rfl, trivial⟩, rfl, rfl, rfl, rfl, rfl, rfl, rfl, rfl, trivial⟩
 ·have h8 := of_decide_eq_false h8
  have hsame : mixL l (i + 1) = mixL l i := by
   rw [hms, low_big (by omega)]
   apply List.ext_getElem?
   intro j
   rw [List.getElem?_set]
   split
   ·rename_i e; subst e; rw [if_pos (by rw [mix_len]; exact hil), hmg]
   ·rfl
  rw [wrap64 (x := (i : Int) + 1) (by omega) (by omega)]
  refine ⟨l.length - (i + 1), by omega, _, _, [0, 1], ⟨i + 1, by omega, rfl, rfl, hle5', rfl⟩, ?_⟩
  exact ⟨rfl, ⟨rfl, by rw [hsame]; rfl, trivial⟩, rfl, rfl, rfl, rfl, rfl, rfl, rfl, rfl, trivial⟩
theorem linesB (c : Clm) {F : Fr} {H1 : Hp} {G : List SB} (h1 : stN c F H1 G) : codeL Tryz.prog Tryz.f7.ntmps 0 .none (tailC slC 11) (endK Tryz.prog Sl.T 0 Tryz.f7.results.toList fun e _ _ => e = .ret (pv (.bool true))) F H1 G := by
 obtain ⟨hR, rfl, rfl⟩ := h1
 have hk : -9223372036854775808 ≤ c.kind ∧ c.kind ≤ 9223372036854775807 := by have := hR.kind; omega
 have hbs : byteCells ⟨((lineT c).data.toList.map low).toArray⟩ = bCells ((lineT c).data.toList.map low) := by rw [byteCells_map]; unfold bCells; simp
 refine codeL.frzB 1 rfl ?_
 intro x H2 hle2 hfr
 obtain ⟨g, o, cap, rfl, hv⟩ : ∃ g o cap, x = .slice (some ⟨g, o, none⟩) (lineT c).size cap ∧ RdN H2 (some ⟨g, o, none⟩) 0 (bCells ((lineT c).data.toList.map low)) := by
  rcases hfr with ⟨rfl, h1, h2⟩ | ⟨g, o, cap, rfl, _, h2⟩
  ·have := line_pos c; omega
  ·exact ⟨g, o, cap, rfl, h2⟩
 refine codeL.go Sl.tab ?_
 (conv => whnf)
 refine ⟨⟨((lineT c).data.toList.map low).toArray⟩, ?_, ?_, ?_⟩
 ·show (((lineT c).data.toList.map low).toArray).size = _
  rw [List.size_toArray, List.length_map, Array.length_toList]; rfl
 ·exact .inr (by rw [hbs]; exact hv)
 rw [line_map hR]
 (conv => whnf)
 rw [str_refl]
 (conv => whnf)
 refine ⟨⟨_, Tryz.func26, rfl, by kernel_rfl⟩, CallS.use (short_ c.kind hk.1 hk.2 _) [] rfl rfl trivial ?_⟩
 rintro e H3 G' hle3 ⟨rfl, hle3', rfl⟩
 (conv => whnf)
 rw [str_refl]
 (conv => whnf)
 refine ⟨⟨_, Tryz.func26, rfl, by kernel_rfl⟩, CallS.use (short_ 0 (by decide) (by decide) _) [] rfl rfl trivial ?_⟩
 rintro e H4 G' hle4 ⟨rfl, hle4', rfl⟩
 (conv => whnf)
 rw [show strEq (shortK 0) ⟨#[]⟩ = true by decide +kernel]
 (conv => whnf)
 refine ⟨⟨_, Tryz.func26, rfl, by kernel_rfl⟩, CallS.use (short_ 7 (by decide) (by decide) _) [] rfl rfl trivial ?_⟩
 rintro e H5 G' hle5 ⟨rfl, hle5', rfl⟩
 (conv => whnf)
 rw [show strEq (shortK 7) ⟨#[]⟩ = true by decide +kernel]
 rfl
theorem setLines (c : Clm) (hn : (Lit.int .i64 c.iat).wf = true) (hkw : (Lit.int .i64 c.kind).wf = true) (H : Hp) (hE : ErrH H) (hU : U8H H) : CallO Tryz.prog 7 [.si (.ag (csC c))] H [] fun e _ _ => e = .ret (pv (.bool true)) := by
 have hk := kind_wf hkw
 refine CallO.of_bodyW Sl.tab Tryz.func7 rfl (nt := Tryz.f7.ntmps) rfl (by kernel_rfl) ?_
 refine (codeL.cutTo Sl.tab 9 (stL c) ?_ fun F' H' G' _ h => linesA c h fun F' H' G' _ h => linesB c h).to
 (conv => whnf)
 refine ⟨⟨_, Tryz.func8, rfl, by kernel_rfl⟩, CallS.use (anchor_ H hE) [] rfl rfl trivial ?_⟩
 rintro e H2 G' hle2 ⟨rfl, _, rfl⟩
 (conv => whnf)
 refine ⟨⟨_, Tryz.func9, rfl, by kernel_rfl⟩, CallS.use (listed0 c H2) [] rfl rfl trivial ?_⟩
 rintro e H3 G' hle3 ⟨⟨bb, rfl, hfit⟩, hle3', rfl⟩
 cases bb
 ·(conv => whnf)
  rfl
 obtain ⟨hft, hfc⟩ := listed_fit (hfit rfl) hn hkw
 (conv => whnf)
 refine ⟨⟨_, Tryz.func23, rfl, by kernel_rfl⟩, CallS.use (line0 c.iss c.jti c.aud c.iat c.txn c.sub.fmt c.sub.id c.sub.own c.kind c.reason hk H3 (hU.mono (hle2.trans hle3))) [] rfl rfl trivial ?_⟩
 rintro e H4 G' hle4 ⟨rfl, hle4', rfl⟩
 rw [show lineP ⟨c.iss, c.jti, c.aud, c.iat, c.txn, ⟨c.sub.fmt, c.sub.id, c.sub.own⟩, c.kind, c.reason⟩ = lineP c from rfl]
 (conv => whnf)
 refine ⟨⟨_, Tryz.func12, rfl, by kernel_rfl⟩, CallS.use (Rf.right13 c.iss c.jti c.aud c.iat c.txn c.sub.fmt c.sub.id c.sub.own c.kind c.reason hft H4) [] rfl rfl trivial ?_⟩
 rintro e H5 G' hle5 ⟨rfl, hle5', rfl⟩
 rw [show clRight ⟨c.iss, c.jti, c.aud, c.iat, c.txn, ⟨c.sub.fmt, c.sub.id, c.sub.own⟩, c.kind, c.reason⟩ = clRight c from rfl]
 have hri := right_iff c
 cases hr : clRight c
 ·rw [show lineP c = (⟨#[]⟩, 10) from if_neg (by rw [hr]; decide)]
  (conv => whnf)
  rfl
 rw [show lineP c = (mapB (lineT c), 0) from if_pos hr]
 have hR := hri.1 hr
 (conv => whnf)
 refine ⟨by decide, .inl ?_⟩
 intro g H6 hle6 hrd
 (conv => whnf)
 have hk1 := hR.kind
 rw [wrap64 (x := c.kind - 1) (by omega) (by omega)]
 refine ⟨⟨by omega, by omega⟩, ⟨g, 0, rfl⟩, ?_⟩
 (conv => whnf)
 have hget : ([.string sh1, .string sh2, .string sh3, .string sh4, .string sh5, .string sh6] : List Value)[(c.kind - 1).toNat]? = some (.string (shortK c.kind)) := by
  obtain h | h | h | h | h | h : c.kind = 1 ∨ c.kind = 2 ∨ c.kind = 3 ∨ c.kind = 4 ∨ c.kind = 5 ∨ c.kind = 6 := by omega
  all_goals rw [h]; rfl
 refine ⟨.string (shortK c.kind), ?_, ?_⟩
 ·obtain ⟨b, o, e, h⟩ := hrd
  injection e with e
  injection e with e1 e2
  subst e1 e2
  refine ⟨g, 0, rfl, ?_⟩
  have := h (c.kind - 1).toNat _ hget
  rw [← this]
  congr 1
  show 0 + (c.kind - 1).toNat * 1 = 0 + 0 + (c.kind - 1).toNat
  omega
 (conv => whnf)
 obtain ⟨s1, s2, s3, s4, s5, s6, s7⟩ := size_right hR
 have hn0 := hR.iat.1
 have hn1 := hR.iat.2
 have s8 := itoa_size hn0 hn1
 have s9 := short_size c.kind
 have s10 := show_size c.sub
 have z1 : (⟨#[32]⟩ : ByteArray).size = 1 := rfl
 have z2 : (⟨#[32, 116, 111, 32]⟩ : ByteArray).size = 4 := rfl
 have z3 : (⟨#[58, 32]⟩ : ByteArray).size = 2 := rfl
 have z4 : (⟨#[32, 40]⟩ : ByteArray).size = 2 := rfl
 have z5 : (⟨#[41]⟩ : ByteArray).size = 1 := rfl
 refine WS.draw Sl.tab Ob.mixed (.take 0 (.take 1 (.take 2 (.take 3 (.take 4 (.take 8 (.take 11 (.take 12 (.take 15 (.take 16 (.alt 5 (.take 6 (.take 7 (.take 9 (.take 10 (.take 13 (.take 14 (.alt 17 (.take 18 (.take 19 .done)) .no))))))) .no))))))))))) (by kernel_rfl) [] ?_
 (conv => whnf)
 repeat' (first
  | exact trivial
  | exact rfl
  | exact ⟨rfl, rfl, trivial⟩
  | exact ⟨_, Tryz.func24, rfl, by kernel_rfl⟩
  | exact ⟨_, Tryz.func25, rfl, by kernel_rfl⟩
  | (refine CallS.use (digits_ c.iat hn0 hn1 _) [] rfl rfl trivial ?_; rintro e H7 G' hle7 ⟨rfl, rfl⟩; (conv => whnf))
  | (refine CallS.use (show_ c.sub (Nat.le_trans s4 (by decide)) (Nat.le_trans s5 (by decide)) (Nat.le_trans s6 (by decide)) _) [] rfl rfl trivial ?_; rintro e H8 G' hle8 ⟨rfl, rfl, rfl⟩; (conv => whnf))
  | (refine ⟨by simp only [ByteArray.size_append, z1, z2, z3]; omega, ?_⟩; (conv => whnf))
  | (refine And.intro ?_ ?_ <;> (conv => whnf)))
 cases hb : strEq c.reason ⟨#[]⟩
 ·have hl : lineS c ++ (⟨#[32, 40]⟩ ++ c.reason ++ ⟨#[41]⟩) = lineT c := (if_neg (fun h => by rw [hb] at h; cases h)).symm
  (conv => whnf)
  refine ⟨by simp only [ByteArray.size_append, z4]; omega, ?_⟩
  (conv => whnf)
  refine ⟨by simp only [ByteArray.size_append, z4, z5]; omega, ?_⟩
  (conv => whnf)
  refine ⟨by simp only [ByteArray.size_append, z1, z2, z3, z4, z5]; omega, ?_⟩
  (conv => whnf)
  exact ⟨_, _, [0], ⟨hR, _, hl, rfl, rfl⟩, rfl, ⟨rfl, trivial⟩, rfl, rfl, rfl, rfl, rfl, trivial⟩
 ·have hl : lineS c = lineT c := (if_pos hb).symm
  (conv => whnf)
  exact ⟨_, _, [0], ⟨hR, _, hl, rfl, rfl⟩, rfl, ⟨rfl, trivial⟩, rfl, rfl, rfl, rfl, rfl, trivial⟩
end Go.Kx.Ln
