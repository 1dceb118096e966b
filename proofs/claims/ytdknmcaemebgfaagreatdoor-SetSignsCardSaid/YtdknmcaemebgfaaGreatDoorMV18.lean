/- The reference of layer 13: claims' text. No condition of its own. -/
import Derived.Test.YtdknmcaemebgfaaGreatDoorMV17
namespace Go.Kx.Rf
open Go.Proofs Go.Kx Go.RowKit Go.Kx.Js Go.Kx.Pr Go.Kx.Cl Go.Kx.Se Go.Kx.Lb Go.Kx.Jw Go.Kx.Ob
set_option maxRecDepth 20000
set_option linter.unusedSimpArgs false
namespace Tx
def T : Tab := [(9, { k := TK.string, agg := false, size := 1, bytes := 16, zero := [Z.s] }), (28, { k := TK.st [(0, 9, 1), (1, 9, 1), (2, 9, 1), (3, 3, 1), (4, 9, 1), (5, 9, 1), (6, 9, 1), (7, 9, 1), (8, 3, 1), (9, 9, 1)], agg := true, size := 10, bytes := 144, zero := [Z.s, Z.s, Z.s, Z.i IntKind.i64, Z.s, Z.s, Z.s, Z.s, Z.i IntKind.i64, Z.s] }), (3, { k := TK.int IntKind.i64, agg := false, size := 1, bytes := 8, zero := [Z.i IntKind.i64] }), (84, { k := TK.ar 6 9 1, agg := true, size := 6, bytes := 96, zero := [Z.s, Z.s, Z.s, Z.s, Z.s, Z.s] }), (4, { k := TK.bool, agg := false, size := 1, bytes := 1, zero := [Z.b] }), (5, { k := TK.int IntKind.u8, agg := false, size := 1, bytes := 1, zero := [Z.i IntKind.u8] }), (55, { k := TK.slice 5, agg := false, size := 1, bytes := 24, zero := [Z.sl] })]
set_option maxRecDepth 100000 in
theorem tab : TabOk Tryz.prog T := tabOk_mk (ts := [9, 28, 3, 84, 4, 5, 55]) (by kernel_rfl)
end Tx
theorem cl_w (c : Clm) : wrJ (clJ c) = ([123, 34, 105, 115, 115, 34, 58] : List UInt8) ++ (quoteB (tL c.iss) ++ (([44, 34, 106, 116, 105, 34, 58] : List UInt8) ++ (quoteB (tL c.jti) ++ (([44, 34, 105, 97, 116, 34, 58] : List UInt8) ++ ((Lb.itoaB c.iat).data.toList ++ (([44, 34, 97, 117, 100, 34, 58] : List UInt8) ++ (quoteB (tL c.aud) ++ (([44, 34, 116, 120, 110, 34, 58] : List UInt8) ++ (quoteB (tL c.txn) ++ (([44, 34, 115, 117, 98, 95, 105, 100, 34, 58] : List UInt8) ++ (wrJ (subJ c.sub) ++ (([44, 34, 101, 118, 101, 110, 116, 115, 34, 58, 123] : List UInt8) ++ (quoteB (tL (nameK c.kind)) ++ (([58] : List UInt8) ++ (wrJ (objJ (evMs c)) ++ ([125, 125] : List UInt8)))))))))))))))) := by
 have e : wrJ (numJ c.iat) = (Lb.itoaB c.iat).data.toList := by unfold numJ; simp [wrJ]
 have h : wrJ (clJ c) = [123] ++ wrMs true (clMs c) ++ [125] := by unfold clJ; generalize clMs c = m; simp only [objJ, wrJ]; rfl
 have h2 : wrJ (evJ c) = [123] ++ wrMs true [(nameK c.kind, objJ (evMs c))] ++ [125] := by unfold evJ; simp only [objJ, wrJ]; rfl
 rw [h]
 unfold clMs
 simp only [wrMs, wr_str, e]
 rw [h2]
 simp only [wrMs]
 rw [show quoteB sIss.data.toList = ([34, 105, 115, 115, 34] : List UInt8) from by decide +kernel, show quoteB sJti.data.toList = ([34, 106, 116, 105, 34] : List UInt8) from by decide +kernel, show quoteB sIat.data.toList = ([34, 105, 97, 116, 34] : List UInt8) from by decide +kernel, show quoteB sAud.data.toList = ([34, 97, 117, 100, 34] : List UInt8) from by decide +kernel, show quoteB sTxn.data.toList = ([34, 116, 120, 110, 34] : List UInt8) from by decide +kernel, show quoteB sSubId.data.toList = ([34, 115, 117, 98, 95, 105, 100, 34] : List UInt8) from by decide +kernel, show quoteB sEvents.data.toList = ([34, 101, 118, 101, 110, 116, 115, 34] : List UInt8) from by decide +kernel]
 unfold tL
 simp
theorem rs_w (c : Clm) (h : c.reason ≠ ⟨#[]⟩) : wrJ (objJ (evMs c)) = ([123, 34, 114, 101, 97, 115, 111, 110, 34, 58] : List UInt8) ++ (quoteB (tL c.reason) ++ ([125] : List UInt8)) := by
 unfold evMs
 rw [if_neg (by rw [strEq_iff]; exact h)]
 simp only [objJ, wrJ, wrMs, wr_str]
 rw [show quoteB sReason.data.toList = ([34, 114, 101, 97, 115, 111, 110, 34] : List UInt8) from by decide +kernel]
 unfold tL
 simp
theorem getC_of {G : List SC} {k : Nat} {s : SC} {K : SC → Prop} (h : G[k]? = some s) (hk : K s) : getC G k K := by
 induction G generalizing k with
 | nil => simp at h
 | cons a r ih =>
  cases k with
  | zero => simp only [List.getElem?_cons_zero, Option.some.injEq] at h; subst h; exact hk
  | succ k => exact ih (by simpa using h)
abbrev tails : List SC := [.val (.string (⟨#[99, 97, 101, 112, 47, 101, 118, 101, 110, 116, 45, 116, 121, 112, 101, 47, 115, 101, 115, 115, 105, 111, 110, 45, 114, 101, 118, 111, 107, 101, 100]⟩ : ByteArray)), .val (.string (⟨#[99, 97, 101, 112, 47, 101, 118, 101, 110, 116, 45, 116, 121, 112, 101, 47, 99, 114, 101, 100, 101, 110, 116, 105, 97, 108, 45, 99, 104, 97, 110, 103, 101]⟩ : ByteArray)), .val (.string (⟨#[114, 105, 115, 99, 47, 101, 118, 101, 110, 116, 45, 116, 121, 112, 101, 47, 97, 99, 99, 111, 117, 110, 116, 45, 100, 105, 115, 97, 98, 108, 101, 100]⟩ : ByteArray)), .val (.string (⟨#[114, 105, 115, 99, 47, 101, 118, 101, 110, 116, 45, 116, 121, 112, 101, 47, 97, 99, 99, 111, 117, 110, 116, 45, 101, 110, 97, 98, 108, 101, 100]⟩ : ByteArray)), .val (.string (⟨#[99, 97, 101, 112, 47, 101, 118, 101, 110, 116, 45, 116, 121, 112, 101, 47, 116, 111, 107, 101, 110, 45, 99, 108, 97, 105, 109, 115, 45, 99, 104, 97, 110, 103, 101]⟩ : ByteArray)), .val (.string (⟨#[115, 115, 101, 47, 101, 118, 101, 110, 116, 45, 116, 121, 112, 101, 47, 118, 101, 114, 105, 102, 105, 99, 97, 116, 105, 111, 110]⟩ : ByteArray))]
theorem tail_nm {k : Int} (h : 1 ≤ k ∧ k ≤ 6) : ∃ nm : ByteArray, tails[0 + (k - 1).toNat * 1]? = some (.val (.string nm)) ∧ nm.size ≤ 40 ∧ quoteB (tL (nameK k)) = ([34, 104, 116, 116, 112, 115, 58, 47, 47, 115, 99, 104, 101, 109, 97, 115, 46, 111, 112, 101, 110, 105, 100, 46, 110, 101, 116, 47, 115, 101, 99, 101, 118, 101, 110, 116, 47] : List UInt8) ++ (nm.data.toList ++ [34]) := by
 have h6 : k = 1 ∨ k = 2 ∨ k = 3 ∨ k = 4 ∨ k = 5 ∨ k = 6 := by omega
 rcases h6 with rfl | rfl | rfl | rfl | rfl | rfl <;> exact ⟨_, rfl, by decide, by decide +kernel⟩
theorem text_ (c : Clm) (h : RightC c) (H : Hp) : CallO Tryz.prog 15 [.si (.ag (cs10 c.iss c.jti c.aud c.iat c.txn c.sub.fmt c.sub.id c.sub.own c.kind c.reason))] H [] fun e H' G' => e = .ret (pv (.string ⟨(wrJ (clJ c)).toArray⟩)) ∧ H.Le H' ∧ G' = [] := by
 have k1 : 1 ≤ c.kind ∧ c.kind ≤ 6 := h.kind
 have b1 := (word_size h.iss).1
 have b2 := (word_size h.jti).1
 have b3 := (word_size h.aud).1
 have b4 := (word_size h.txn).1
 have hsub := h.sub
 have hiat := h.iat
 have hcw := cl_w c
 have hrw := rs_w c
 have hre : c.reason.size ≤ 256 := by rcases h.reason with e | e; rw [e]; decide; exact (word_size e).1
 obtain ⟨iss, jti, aud, iat, txn, ⟨sf, si, so⟩, kind, reason⟩ := c
 obtain ⟨txt, htx⟩ : ∃ t, t = wrJ (clJ ⟨iss, jti, aud, iat, txn, ⟨sf, si, so⟩, kind, reason⟩) := ⟨_, rfl⟩
 rw [← htx] at hcw ⊢
 dsimp only at *
 refine CallO.of_body Tx.tab Tryz.func15 rfl (nt := Tryz.f15.ntmps) rfl (by kernel_rfl) ?_
 (conv => whnf)
 obtain ⟨nm, hnm, hnz, hnq⟩ := tail_nm k1
 have hs3 : (Lb.itoaB iat).size ≤ 15 := by
  obtain ⟨m, rfl⟩ : ∃ m : Nat, iat = m := ⟨iat.toNat, by omega⟩
  exact Dg.itoa_le m (by omega)
 cases hrs : strEq reason ⟨#[]⟩
 ·(conv => whnf)
  refine ⟨⟨_, Tryz.func45, rfl, by kernel_rfl⟩, CallS.use (quoteS reason (by omega) H) [] rfl rfl trivial ?_⟩
  rintro e H2 G' hle ⟨⟨q, rfl, hq, hqs⟩, rfl, rfl⟩
  (conv => whnf)
  refine ⟨add_ok (n := 100) (by decide) hqs (by decide), ?_⟩
  (conv => whnf)
  refine ⟨add_ok (add_le (n := 100) (by decide) hqs) (m := 1) (by decide) (by decide), ?_⟩
  (conv => whnf)
  have hr1 : ((⟨([123, 34, 114, 101, 97, 115, 111, 110, 34, 58] : List UInt8).toArray⟩ : ByteArray) ++ q ++ ⟨#[125]⟩).data.toList = wrJ (objJ (evMs ⟨iss, jti, aud, iat, txn, ⟨sf, si, so⟩, kind, reason⟩)) := by
   rw [hrw ((strEq_false ..).1 hrs)]
   simp only [ByteArray.data_append, Array.toList_append, hq]
   simp
  have hr2 : ((⟨([123, 34, 114, 101, 97, 115, 111, 110, 34, 58] : List UInt8).toArray⟩ : ByteArray) ++ q ++ ⟨#[125]⟩).size ≤ 6201 := Nat.le_trans (add_le (add_le (n := 100) (by decide) hqs) (m := 1) (by decide)) (by decide)
  generalize (⟨([123, 34, 114, 101, 97, 115, 111, 110, 34, 58] : List UInt8).toArray⟩ : ByteArray) ++ q ++ ⟨#[125]⟩ = rs at hr1 hr2 ⊢
  refine WS.draw Tx.tab Rf.mixed (.take 0 (.take 1 (.take 5 (.take 6 (.take 10 (.take 11 (.take 15 (.take 16 (.take 20 (.take 21 (.take 25 (.take 29 (.take 30 (.take 31 (.take 32 (.take 33 (.take 36 (.alt 2 (.take 3 (.take 4 (.alt 7 (.take 8 (.take 9 (.alt 12 (.take 13 (.take 14 (.alt 17 (.take 18 (.take 19 (.alt 22 (.take 23 (.take 24 (.alt 26 (.take 27 (.take 28 (.take 34 (.take 35 (.take 37 (.take 38 (.take 39 .done))))))) .no))) .no))) .no))) .no))) .no))) .no)))))))))))))))))) (by kernel_rfl) [] ?_
  (conv => whnf)
  rw [wrap64 (x := kind - 1) (by omega) (by omega)]
  refine ⟨⟨by omega, by omega⟩, ?_⟩
  (conv => whnf)
  refine getC_of hnm ?_
  (conv => whnf)
  refine And.intro ?_ ?_ <;> (conv => whnf)
  rotate_left
  ·exact trivial
  refine ⟨⟨_, Tryz.func45, rfl, by kernel_rfl⟩, CallS.use (quoteS iss (by omega) _) [] rfl rfl trivial ?_⟩
  rintro e Hx1 G' hlex1 ⟨⟨q1, rfl, hq1, hs1⟩, rfl, rfl⟩
  (conv => whnf)
  refine ⟨⟨rfl, rfl, trivial⟩, ?_⟩
  (conv => whnf)
  refine ⟨add_ok (n := 100) (by decide) hs1 (by decide), ?_⟩
  (conv => whnf)
  refine ⟨add_ok (add_le (n := 100) (by decide) hs1) (m := 100) (by decide) (by decide), ?_⟩
  (conv => whnf)
  refine And.intro ?_ ?_ <;> (conv => whnf)
  rotate_left
  ·exact trivial
  refine ⟨⟨_, Tryz.func45, rfl, by kernel_rfl⟩, CallS.use (quoteS jti (by omega) _) [] rfl rfl trivial ?_⟩
  rintro e Hx2 G' hlex2 ⟨⟨q2, rfl, hq2, hs2⟩, rfl, rfl⟩
  (conv => whnf)
  refine ⟨⟨rfl, rfl, trivial⟩, ?_⟩
  (conv => whnf)
  refine ⟨add_ok (add_le (add_le (n := 100) (by decide) hs1) (m := 100) (by decide)) hs2 (by decide), ?_⟩
  (conv => whnf)
  refine ⟨add_ok (add_le (add_le (add_le (n := 100) (by decide) hs1) (m := 100) (by decide)) hs2) (m := 100) (by decide) (by decide), ?_⟩
  (conv => whnf)
  refine And.intro ?_ ?_ <;> (conv => whnf)
  rotate_left
  ·exact trivial
  refine ⟨⟨_, Tryz.func46, rfl, by kernel_rfl⟩, CallS.use (digits13 iat hiat.1 hiat.2 _) [] rfl rfl trivial ?_⟩
  rintro e Hx3 G' hlex3 ⟨rfl, rfl⟩
  (conv => whnf)
  refine ⟨⟨rfl, rfl, trivial⟩, ?_⟩
  (conv => whnf)
  refine ⟨add_ok (add_le (add_le (add_le (add_le (n := 100) (by decide) hs1) (m := 100) (by decide)) hs2) (m := 100) (by decide)) hs3 (by decide), ?_⟩
  (conv => whnf)
  refine ⟨add_ok (add_le (add_le (add_le (add_le (add_le (n := 100) (by decide) hs1) (m := 100) (by decide)) hs2) (m := 100) (by decide)) hs3) (m := 100) (by decide) (by decide), ?_⟩
  (conv => whnf)
  refine And.intro ?_ ?_ <;> (conv => whnf)
  rotate_left
  ·exact trivial
  refine ⟨⟨_, Tryz.func45, rfl, by kernel_rfl⟩, CallS.use (quoteS aud (by omega) _) [] rfl rfl trivial ?_⟩
  rintro e Hx4 G' hlex4 ⟨⟨q4, rfl, hq4, hs4⟩, rfl, rfl⟩
  (conv => whnf)
  refine ⟨⟨rfl, rfl, trivial⟩, ?_⟩
  (conv => whnf)
  refine ⟨add_ok (add_le (add_le (add_le (add_le (add_le (add_le (n := 100) (by decide) hs1) (m := 100) (by decide)) hs2) (m := 100) (by decide)) hs3) (m := 100) (by decide)) hs4 (by decide), ?_⟩
  (conv => whnf)
  refine ⟨add_ok (add_le (add_le (add_le (add_le (add_le (add_le (add_le (n := 100) (by decide) hs1) (m := 100) (by decide)) hs2) (m := 100) (by decide)) hs3) (m := 100) (by decide)) hs4) (m := 100) (by decide) (by decide), ?_⟩
  (conv => whnf)
  refine And.intro ?_ ?_ <;> (conv => whnf)
  rotate_left
  ·exact trivial
  refine ⟨⟨_, Tryz.func45, rfl, by kernel_rfl⟩, CallS.use (quoteS txn (by omega) _) [] rfl rfl trivial ?_⟩
  rintro e Hx5 G' hlex5 ⟨⟨q5, rfl, hq5, hs5⟩, rfl, rfl⟩
  (conv => whnf)
  refine ⟨⟨rfl, rfl, trivial⟩, ?_⟩
  (conv => whnf)
  refine ⟨add_ok (add_le (add_le (add_le (add_le (add_le (add_le (add_le (add_le (n := 100) (by decide) hs1) (m := 100) (by decide)) hs2) (m := 100) (by decide)) hs3) (m := 100) (by decide)) hs4) (m := 100) (by decide)) hs5 (by decide), ?_⟩
  (conv => whnf)
  refine ⟨add_ok (add_le (add_le (add_le (add_le (add_le (add_le (add_le (add_le (add_le (n := 100) (by decide) hs1) (m := 100) (by decide)) hs2) (m := 100) (by decide)) hs3) (m := 100) (by decide)) hs4) (m := 100) (by decide)) hs5) (m := 100) (by decide) (by decide), ?_⟩
  (conv => whnf)
  refine And.intro ?_ ?_ <;> (conv => whnf)
  rotate_left
  ·exact trivial
  refine ⟨⟨_, Tryz.func47, rfl, by kernel_rfl⟩, CallS.use (about iss jti aud iat txn ⟨sf, si, so⟩ kind reason hsub _) [] rfl rfl trivial ?_⟩
  rintro e Hx6 G' hlex6 ⟨⟨q6, rfl, hq6, hs6⟩, hle6, rfl⟩
  (conv => whnf)
  refine ⟨⟨rfl, rfl, trivial⟩, ?_⟩
  (conv => whnf)
  refine ⟨add_ok (add_le (add_le (add_le (add_le (add_le (add_le (add_le (add_le (add_le (add_le (n := 100) (by decide) hs1) (m := 100) (by decide)) hs2) (m := 100) (by decide)) hs3) (m := 100) (by decide)) hs4) (m := 100) (by decide)) hs5) (m := 100) (by decide)) hs6 (by decide), ?_⟩
  (conv => whnf)
  refine ⟨add_ok (add_le (add_le (add_le (add_le (add_le (add_le (add_le (add_le (add_le (add_le (add_le (n := 100) (by decide) hs1) (m := 100) (by decide)) hs2) (m := 100) (by decide)) hs3) (m := 100) (by decide)) hs4) (m := 100) (by decide)) hs5) (m := 100) (by decide)) hs6) (m := 100) (by decide) (by decide), ?_⟩
  (conv => whnf)
  refine ⟨add_ok (add_le (add_le (add_le (add_le (add_le (add_le (add_le (add_le (add_le (add_le (add_le (add_le (n := 100) (by decide) hs1) (m := 100) (by decide)) hs2) (m := 100) (by decide)) hs3) (m := 100) (by decide)) hs4) (m := 100) (by decide)) hs5) (m := 100) (by decide)) hs6) (m := 100) (by decide)) hnz (by decide), ?_⟩
  (conv => whnf)
  refine ⟨add_ok (add_le (add_le (add_le (add_le (add_le (add_le (add_le (add_le (add_le (add_le (add_le (add_le (add_le (n := 100) (by decide) hs1) (m := 100) (by decide)) hs2) (m := 100) (by decide)) hs3) (m := 100) (by decide)) hs4) (m := 100) (by decide)) hs5) (m := 100) (by decide)) hs6) (m := 100) (by decide)) hnz) (m := 100) (by decide) (by decide), ?_⟩
  (conv => whnf)
  refine ⟨add_ok (add_le (add_le (add_le (add_le (add_le (add_le (add_le (add_le (add_le (add_le (add_le (add_le (add_le (add_le (n := 100) (by decide) hs1) (m := 100) (by decide)) hs2) (m := 100) (by decide)) hs3) (m := 100) (by decide)) hs4) (m := 100) (by decide)) hs5) (m := 100) (by decide)) hs6) (m := 100) (by decide)) hnz) (m := 100) (by decide)) hr2 (by decide), ?_⟩
  (conv => whnf)
  refine ⟨add_ok (add_le (add_le (add_le (add_le (add_le (add_le (add_le (add_le (add_le (add_le (add_le (add_le (add_le (add_le (add_le (n := 100) (by decide) hs1) (m := 100) (by decide)) hs2) (m := 100) (by decide)) hs3) (m := 100) (by decide)) hs4) (m := 100) (by decide)) hs5) (m := 100) (by decide)) hs6) (m := 100) (by decide)) hnz) (m := 100) (by decide)) hr2) (m := 100) (by decide) (by decide), ?_⟩
  (conv => whnf)
  refine ⟨?_, ((((hlex1.trans hlex2).trans hlex3).trans hlex4).trans hlex5).trans hlex6, rfl⟩
  refine congrArg (fun s : ByteArray => SE.ret (pv (.string s))) ?_
  apply ByteArray.ext
  refine Array.toList_inj.1 ?_
  rw [hcw, hnq, ← hr1, ← hq1, ← hq2, ← hq4, ← hq5, ← hq6]
  simp only [ByteArray.data_append, Array.toList_append, List.append_assoc]
  simp
 ·(conv => whnf)
  have hr1 : (⟨#[123, 125]⟩ : ByteArray).data.toList = wrJ (objJ (evMs ⟨iss, jti, aud, iat, txn, ⟨sf, si, so⟩, kind, reason⟩)) := by
   unfold evMs
   rw [if_pos hrs]
   rfl
  have hr2 : (⟨#[123, 125]⟩ : ByteArray).size ≤ 6201 := by decide
  generalize (⟨#[123, 125]⟩ : ByteArray) = rs at hr1 hr2 ⊢
  refine WS.draw Tx.tab Rf.mixed (.take 0 (.take 1 (.take 5 (.take 6 (.take 10 (.take 11 (.take 15 (.take 16 (.take 20 (.take 21 (.take 25 (.take 29 (.take 30 (.take 31 (.take 32 (.take 33 (.take 36 (.alt 2 (.take 3 (.take 4 (.alt 7 (.take 8 (.take 9 (.alt 12 (.take 13 (.take 14 (.alt 17 (.take 18 (.take 19 (.alt 22 (.take 23 (.take 24 (.alt 26 (.take 27 (.take 28 (.take 34 (.take 35 (.take 37 (.take 38 (.take 39 .done))))))) .no))) .no))) .no))) .no))) .no))) .no)))))))))))))))))) (by kernel_rfl) [] ?_
  (conv => whnf)
  rw [wrap64 (x := kind - 1) (by omega) (by omega)]
  refine ⟨⟨by omega, by omega⟩, ?_⟩
  (conv => whnf)
  refine getC_of hnm ?_
  (conv => whnf)
  refine And.intro ?_ ?_ <;> (conv => whnf)
  rotate_left
  ·exact trivial
  refine ⟨⟨_, Tryz.func45, rfl, by kernel_rfl⟩, CallS.use (quoteS iss (by omega) _) [] rfl rfl trivial ?_⟩
  rintro e Hx1 G' hlex1 ⟨⟨q1, rfl, hq1, hs1⟩, rfl, rfl⟩
  (conv => whnf)
  refine ⟨⟨rfl, rfl, trivial⟩, ?_⟩
  (conv => whnf)
  refine ⟨add_ok (n := 100) (by decide) hs1 (by decide), ?_⟩
  (conv => whnf)
  refine ⟨add_ok (add_le (n := 100) (by decide) hs1) (m := 100) (by decide) (by decide), ?_⟩
  (conv => whnf)
  refine And.intro ?_ ?_ <;> (conv => whnf)
  rotate_left
  ·exact trivial
  refine ⟨⟨_, Tryz.func45, rfl, by kernel_rfl⟩, CallS.use (quoteS jti (by omega) _) [] rfl rfl trivial ?_⟩
  rintro e Hx2 G' hlex2 ⟨⟨q2, rfl, hq2, hs2⟩, rfl, rfl⟩
  (conv => whnf)
  refine ⟨⟨rfl, rfl, trivial⟩, ?_⟩
  (conv => whnf)
  refine ⟨add_ok (add_le (add_le (n := 100) (by decide) hs1) (m := 100) (by decide)) hs2 (by decide), ?_⟩
  (conv => whnf)
  refine ⟨add_ok (add_le (add_le (add_le (n := 100) (by decide) hs1) (m := 100) (by decide)) hs2) (m := 100) (by decide) (by decide), ?_⟩
  (conv => whnf)
  refine And.intro ?_ ?_ <;> (conv => whnf)
  rotate_left
  ·exact trivial
  refine ⟨⟨_, Tryz.func46, rfl, by kernel_rfl⟩, CallS.use (digits13 iat hiat.1 hiat.2 _) [] rfl rfl trivial ?_⟩
  rintro e Hx3 G' hlex3 ⟨rfl, rfl⟩
  (conv => whnf)
  refine ⟨⟨rfl, rfl, trivial⟩, ?_⟩
  (conv => whnf)
  refine ⟨add_ok (add_le (add_le (add_le (add_le (n := 100) (by decide) hs1) (m := 100) (by decide)) hs2) (m := 100) (by decide)) hs3 (by decide), ?_⟩
  (conv => whnf)
  refine ⟨add_ok (add_le (add_le (add_le (add_le (add_le (n := 100) (by decide) hs1) (m := 100) (by decide)) hs2) (m := 100) (by decide)) hs3) (m := 100) (by decide) (by decide), ?_⟩
  (conv => whnf)
  refine And.intro ?_ ?_ <;> (conv => whnf)
  rotate_left
  ·exact trivial
  refine ⟨⟨_, Tryz.func45, rfl, by kernel_rfl⟩, CallS.use (quoteS aud (by omega) _) [] rfl rfl trivial ?_⟩
  rintro e Hx4 G' hlex4 ⟨⟨q4, rfl, hq4, hs4⟩, rfl, rfl⟩
  (conv => whnf)
  refine ⟨⟨rfl, rfl, trivial⟩, ?_⟩
  (conv => whnf)
  refine ⟨add_ok (add_le (add_le (add_le (add_le (add_le (add_le (n := 100) (by decide) hs1) (m := 100) (by decide)) hs2) (m := 100) (by decide)) hs3) (m := 100) (by decide)) hs4 (by decide), ?_⟩
  (conv => whnf)
  refine ⟨add_ok (add_le (add_le (add_le (add_le (add_le (add_le (add_le (n := 100) (by decide) hs1) (m := 100) (by decide)) hs2) (m := 100) (by decide)) hs3) (m := 100) (by decide)) hs4) (m := 100) (by decide) (by decide), ?_⟩
  (conv => whnf)
  refine And.intro ?_ ?_ <;> (conv => whnf)
  rotate_left
  ·exact trivial
  refine ⟨⟨_, Tryz.func45, rfl, by kernel_rfl⟩, CallS.use (quoteS txn (by omega) _) [] rfl rfl trivial ?_⟩
  rintro e Hx5 G' hlex5 ⟨⟨q5, rfl, hq5, hs5⟩, rfl, rfl⟩
  (conv => whnf)
  refine ⟨⟨rfl, rfl, trivial⟩, ?_⟩
  (conv => whnf)
  refine ⟨add_ok (add_le (add_le (add_le (add_le (add_le (add_le (add_le (add_le (n := 100) (by decide) hs1) (m := 100) (by decide)) hs2) (m := 100) (by decide)) hs3) (m := 100) (by decide)) hs4) (m := 100) (by decide)) hs5 (by decide), ?_⟩
  (conv => whnf)
  refine ⟨add_ok (add_le (add_le (add_le (add_le (add_le (add_le (add_le (add_le (add_le (n := 100) (by decide) hs1) (m := 100) (by decide)) hs2) (m := 100) (by decide)) hs3) (m := 100) (by decide)) hs4) (m := 100) (by decide)) hs5) (m := 100) (by decide) (by decide), ?_⟩
  (conv => whnf)
  refine And.intro ?_ ?_ <;> (conv => whnf)
  rotate_left
  ·exact trivial
  refine ⟨⟨_, Tryz.func47, rfl, by kernel_rfl⟩, CallS.use (about iss jti aud iat txn ⟨sf, si, so⟩ kind reason hsub _) [] rfl rfl trivial ?_⟩
  rintro e Hx6 G' hlex6 ⟨⟨q6, rfl, hq6, hs6⟩, hle6, rfl⟩
  (conv => whnf)
  refine ⟨⟨rfl, rfl, trivial⟩, ?_⟩
  (conv => whnf)
  refine ⟨add_ok (add_le (add_le (add_le (add_le (add_le (add_le (add_le (add_le (add_le (add_le (n := 100) (by decide) hs1) (m := 100) (by decide)) hs2) (m := 100) (by decide)) hs3) (m := 100) (by decide)) hs4) (m := 100) (by decide)) hs5) (m := 100) (by decide)) hs6 (by decide), ?_⟩
  (conv => whnf)
  refine ⟨add_ok (add_le (add_le (add_le (add_le (add_le (add_le (add_le (add_le (add_le (add_le (add_le (n := 100) (by decide) hs1) (m := 100) (by decide)) hs2) (m := 100) (by decide)) hs3) (m := 100) (by decide)) hs4) (m := 100) (by decide)) hs5) (m := 100) (by decide)) hs6) (m := 100) (by decide) (by decide), ?_⟩
  (conv => whnf)
  refine ⟨add_ok (add_le (add_le (add_le (add_le (add_le (add_le (add_le (add_le (add_le (add_le (add_le (add_le (n := 100) (by decide) hs1) (m := 100) (by decide)) hs2) (m := 100) (by decide)) hs3) (m := 100) (by decide)) hs4) (m := 100) (by decide)) hs5) (m := 100) (by decide)) hs6) (m := 100) (by decide)) hnz (by decide), ?_⟩
  (conv => whnf)
  refine ⟨add_ok (add_le (add_le (add_le (add_le (add_le (add_le (add_le (add_le (add_le (add_le (add_le (add_le (add_le (n := 100) (by decide) hs1) (m := 100) (by decide)) hs2) (m := 100) (by decide)) hs3) (m := 100) (by decide)) hs4) (m := 100) (by decide)) hs5) (m := 100) (by decide)) hs6) (m := 100) (by decide)) hnz) (m := 100) (by decide) (by decide), ?_⟩
  (conv => whnf)
  refine ⟨add_ok (add_le (add_le (add_le (add_le (add_le (add_le (add_le (add_le (add_le (add_le (add_le (add_le (add_le (add_le (n := 100) (by decide) hs1) (m := 100) (by decide)) hs2) (m := 100) (by decide)) hs3) (m := 100) (by decide)) hs4) (m := 100) (by decide)) hs5) (m := 100) (by decide)) hs6) (m := 100) (by decide)) hnz) (m := 100) (by decide)) hr2 (by decide), ?_⟩
  (conv => whnf)
  refine ⟨add_ok (add_le (add_le (add_le (add_le (add_le (add_le (add_le (add_le (add_le (add_le (add_le (add_le (add_le (add_le (add_le (n := 100) (by decide) hs1) (m := 100) (by decide)) hs2) (m := 100) (by decide)) hs3) (m := 100) (by decide)) hs4) (m := 100) (by decide)) hs5) (m := 100) (by decide)) hs6) (m := 100) (by decide)) hnz) (m := 100) (by decide)) hr2) (m := 100) (by decide) (by decide), ?_⟩
  (conv => whnf)
  refine ⟨?_, ((((hlex1.trans hlex2).trans hlex3).trans hlex4).trans hlex5).trans hlex6, rfl⟩
  refine congrArg (fun s : ByteArray => SE.ret (pv (.string s))) ?_
  apply ByteArray.ext
  refine Array.toList_inj.1 ?_
  rw [hcw, hnq, ← hr1, ← hq1, ← hq2, ← hq4, ← hq5, ← hq6]
  simp only [ByteArray.data_append, Array.toList_append, List.append_assoc]
  simp
end Go.Kx.Rf
namespace Go.Kx.L13
open Go.Proofs Go.Kx Go.RowKit Go.Kx.Js Go.Kx.Pr Go.Kx.Rt Go.Kx.Ob Go.Kx.Wo Go.Kx.Cl Go.Kx.Pa Go.Kx.Su Go.Kx.Se Go.Kx.Jw
set_option maxRecDepth 20000
set_option linter.unusedSimpArgs false
theorem wf64 {n : Int} (h0 : -9223372036854775808 ≤ n) (h1 : n ≤ 9223372036854775807) : (Lit.int .i64 n).wf = true := by
 have e0 : IntKind.i64.min = -9223372036854775808 := by decide
 have e1 : IntKind.i64.max = 9223372036854775807 := by decide
 simp [Lit.wf, e0, e1, h0, h1]
theorem fit_right {c : Clm} (h : RightC c) : FitC c := by
 have hm : 256 ≤ maxLen := by decide
 have w : ∀ {s : ByteArray}, Wo.wordP 256 s = true → s.size ≤ maxLen := fun hw => Nat.le_trans (word_size hw).1 hm
 have hs : c.sub.fmt.size ≤ maxLen ∧ c.sub.id.size ≤ maxLen ∧ c.sub.own.size ≤ maxLen := by
  rcases sub_cases h.sub with ⟨id, e, h1⟩ | ⟨id, e, h1, h2⟩ | ⟨id, own, e, h1, h2⟩
  ·rw [e]; exact ⟨(by decide : sOpaque.size ≤ maxLen), w h1, Nat.zero_le _⟩
  ·rw [e]; exact ⟨(by decide : sEmail.size ≤ maxLen), w h1, Nat.zero_le _⟩
  ·rw [e]; exact ⟨(by decide : sIssSub.size ≤ maxLen), w h1, w h2⟩
 exact ⟨w h.iss, w h.jti, w h.aud, wf64 (by have := h.iat; omega) (by have := h.iat; omega), w h.txn, hs.1, hs.2.1, hs.2.2, wf64 (by have := h.kind; omega) (by have := h.kind; omega), Nat.le_trans (reason_size h) hm⟩
theorem fit0 : FitC clm0 := ⟨by decide, by decide, by decide, by decide, by decide, by decide, by decide, by decide, by decide, by decide⟩
theorem read_right {s : ByteArray} {key : List UInt8} {c : Clm} (h : readP s key = .ok c) : RightC c := by
 unfold readP at h
 split at h
 ·cases h
 split at h
 ·cases h
 split at h
 ·cases h
 split at h
 ·cases h
 split at h
 ·cases h
 ·rename_i hc
  injection h with h
  subst h
  exact (of_some hc).1
def clX : Except Int Clm → Clm
 | .ok c => c
 | .error _ => clm0
def nX : Except Int Clm → Int
 | .ok _ => 0
 | .error x => x
theorem rcl {X : Except Int Clm} {e : SE} (h : RCl X e) : e = .ret (.tu [.ag (csC (clX X)), .ce (.val (.int .i64 (nX X)))]) := by
 cases X with
 | ok c => exact h
 | error x => exact h
theorem fitX {s : ByteArray} {key : List UInt8} : FitC (clX (readP s key)) := by
 cases h : readP s key with
 | ok c => exact fit_right (read_right h)
 | error x => exact fit0
theorem eqClm {o : Oper} {x y : Operand} (ho : o.op = .binOp .eql 25 x y 25) {F : Fr} {H : Hp} {G : List SB} {K : SV → Prop} (c d : Clm)
  (hx : evX x F fun sv => sv = .si (.ag ((cellsC c).map SC.val))) (hy : evX y F fun sv => sv = .si (.ag ((cellsC d).map SC.val))) (fc : FitC c) (fd : FitC d) (h : ∀ r : Bool, (r = true ↔ c = d) → K (pv (.bool r))) : QO Tryz.prog o F H G K :=
 QO.agg ho (cellsC c) (cellsC d) ksC hx hy gC kC sC (fC _) (fC _) fc.lits fd.lits fun r hr => .inl ⟨rfl, h r (hr.trans cellsC_inj)⟩
end Go.Kx.L13
namespace Go.Kx.L13
open Go.Proofs Go.Kx Go.RowKit Go.Kx.Js Go.Kx.Pr Go.Kx.Rt Go.Kx.Ob Go.Kx.Wo Go.Kx.Cl Go.Kx.Su Go.Kx.Se Go.Kx.Jw
set_option maxRecDepth 20000
set_option linter.unusedSimpArgs false
namespace Li
def T : Tab := [(9, { k := TK.string, agg := false, size := 1, bytes := 16, zero := [Z.s] }), (3, { k := TK.int IntKind.i64, agg := false, size := 1, bytes := 8, zero := [Z.i IntKind.i64] }), (25, { k := TK.st [(0, 9, 1), (1, 9, 1), (2, 9, 1), (3, 3, 1), (4, 9, 1), (5, 23, 3), (8, 3, 1), (9, 9, 1)], agg := true, size := 10, bytes := 144, zero := [Z.s, Z.s, Z.s, Z.i IntKind.i64, Z.s, Z.s, Z.s, Z.s, Z.i IntKind.i64, Z.s] }), (28, { k := TK.st [(0, 9, 1), (1, 9, 1), (2, 9, 1), (3, 3, 1), (4, 9, 1), (5, 9, 1), (6, 9, 1), (7, 9, 1), (8, 3, 1), (9, 9, 1)], agg := true, size := 10, bytes := 144, zero := [Z.s, Z.s, Z.s, Z.i IntKind.i64, Z.s, Z.s, Z.s, Z.s, Z.i IntKind.i64, Z.s] }), (23, { k := TK.st [(0, 9, 1), (1, 9, 1), (2, 9, 1)], agg := true, size := 3, bytes := 48, zero := [Z.s, Z.s, Z.s] }), (4, { k := TK.bool, agg := false, size := 1, bytes := 1, zero := [Z.b] }), (62, { k := TK.slice 9, agg := false, size := 1, bytes := 24, zero := [Z.sl] })]
set_option maxRecDepth 100000 in
theorem tab : TabOk Tryz.prog T := tabOk_mk (ts := [9, 3, 25, 28, 23, 4, 62]) (by kernel_rfl)
end Li
def szs (c : Clm) : List ByteArray := [c.jti, c.aud, c.txn, c.sub.fmt, c.sub.id, c.sub.own, c.reason]
theorem listed0 (c : Clm) (H : Hp) : CallO Tryz.prog 9 [agC c] H [] fun e H' G' => (∃ b : Bool, e = .ret (.tu [.ag (csC c), .ce (.val (.bool b))]) ∧ (b = true → c.iss.size ≤ 300 ∧ ∀ s ∈ szs c, s.size ≤ 300)) ∧ H.Le H' ∧ G' = [] := by
 refine CallO.of_body Li.tab Tryz.func9 rfl (nt := Tryz.f9.ntmps) rfl (by kernel_rfl) ?_
 (conv => whnf)
 refine ⟨by decide, .inl ?_⟩
 intro g H2 hle hrd
 have hv : Pa.VAt H2 (some { block := g, off := 0 }) 7 ((szs c).map Value.string) := ⟨rfl, fun e => (nomatch e), fun a e => by injection e with e; subst e; exact hrd⟩
 (conv => whnf)
 refine WS.loop (fun k F H3 G => ∃ (j : Nat) (m : Int), j ≤ 7 ∧ (c.iss.size : Int) ≤ m ∧ (∀ i s, i < j → (szs c)[i]? = some s → (s.size : Int) ≤ m) ∧ k = 7 - j ∧ F = [(1, .si (.ce (.ptr 0 0))), (2, .si (.ce (.ptr 1 0))), (4, pv (.int .i64 m)), (27, pv (.slice (some { block := g, off := 0 }) 7 7)), (28, pv (.int .i64 7)), (29, pv (.int .i64 j))] ∧ H2.Le H3 ∧ G = [.box 25 (csC c), .box 28 (csC clm0)]) 8 ?_ ?_
 ·refine ⟨7, by omega, _, _, [0, 1], ⟨0, c.iss.size, by omega, Int.le_refl _, fun i s hi => absurd hi (by omega), rfl, rfl, .refl _, rfl⟩, ?_⟩
  exact ⟨rfl, ⟨rfl, rfl, trivial⟩, rfl, rfl, rfl, rfl, rfl, rfl, trivial⟩
 rintro k F H3 G hle3 ⟨j, m, hj, hm, hs, rfl, rfl, hle4, rfl⟩
 refine codeL.go Li.tab ?_
 (conv => whnf)
 refine br.of (fun h1 => ?_) (fun h1 => ?_) <;> (conv => whnf)
 ·have h1 := of_decide_eq_true h1
  obtain ⟨s, hsj⟩ : ∃ s, (szs c)[j]? = some s := ⟨_, List.getElem?_eq_getElem (by show j < 7; omega)⟩
  refine ⟨⟨by omega, by omega⟩, hv.addr (by decide), ?_⟩
  (conv => whnf)
  refine ⟨_, (hv.mono hle4).get (show ((szs c).map Value.string)[j]? = some (.string s) by rw [List.getElem?_map, hsj]; rfl) (by show (j : Int).toNat * 1 = j; omega), ?_⟩
  (conv => whnf)
  rw [wrap64 (x := (j : Int) + 1) (by omega) (by omega)]
  refine ⟨7 - (j + 1), by omega, _, _, [0, 1], ⟨j + 1, maxB m s.size, by omega, ?_, fun i u hi hu => ?_, rfl, rfl, hle4, rfl⟩, ?_⟩
  ·unfold maxB; split <;> omega
  ·rcases Nat.lt_or_ge i j with hij | hij
   ·have := hs i u hij hu
    unfold maxB; split <;> omega
   ·obtain rfl : i = j := by omega
    rw [hsj] at hu
    injection hu with hu
    subst hu
    unfold maxB; split <;> omega
  ·exact ⟨rfl, ⟨rfl, rfl, trivial⟩, rfl, rfl, rfl, rfl, rfl, rfl, trivial⟩
 ·have h1 := of_decide_eq_false h1
  obtain rfl : j = 7 := by omega
  refine ⟨⟨_, rfl, fun hb => ?_⟩, hle.trans hle4, rfl⟩
  have hb : m ≤ 300 := of_decide_eq_true hb
  refine ⟨by omega, fun s hs' => ?_⟩
  obtain ⟨i, hi, rfl⟩ := List.getElem_of_mem hs'
  have := hs i _ hi (List.getElem?_eq_getElem hi)
  omega
end Go.Kx.L13
namespace Go.Kx.L13
open Go.Proofs Go.Kx Go.RowKit Go.Kx.Js Go.Kx.Pr Go.Kx.Rt Go.Kx.Ob Go.Kx.Wo Go.Kx.Cl Go.Kx.Su Go.Kx.Se Go.Kx.Jw
set_option maxRecDepth 20000
set_option linter.unusedSimpArgs false
theorem listed_fit {c : Clm} (h : c.iss.size ≤ 300 ∧ ∀ s ∈ szs c, s.size ≤ 300) (hn : (Lit.int .i64 c.iat).wf = true) (hk : (Lit.int .i64 c.kind).wf = true) : Rf.FitT c ∧ FitC c := by
 obtain ⟨h1, h2⟩ := h
 have w : ∀ s ∈ szs c, s.size ≤ 300 := h2
 have a1 := w c.jti (by simp [szs])
 have a2 := w c.aud (by simp [szs])
 have a3 := w c.txn (by simp [szs])
 have a4 := w c.sub.fmt (by simp [szs])
 have a5 := w c.sub.id (by simp [szs])
 have a6 := w c.sub.own (by simp [szs])
 have a7 := w c.reason (by simp [szs])
 have m : 300 ≤ maxLen := by decide
 exact ⟨⟨by omega, by omega, by omega, by omega, by omega, by omega, by omega, by omega⟩, ⟨by omega, by omega, by omega, hn, by omega, by omega, by omega, by omega, hk, by omega⟩⟩
theorem kind_wf {k : Int} (h : (Lit.int .i64 k).wf = true) : -9223372036854775808 ≤ k ∧ k ≤ 9223372036854775807 := by
 have h1 : IntKind.i64.min ≤ k ∧ k ≤ IntKind.i64.max := by simpa [Lit.wf] using h
 rwa [show IntKind.i64.min = -9223372036854775808 by decide, show IntKind.i64.max = 9223372036854775807 by decide] at h1
end Go.Kx.L13
namespace Go.Kx.Sha
open Go.Proofs Go.Kx
set_option maxRecDepth 20000
namespace Ref1
def T : Tab := [(55, { k := TK.slice 5, agg := false, size := 1, bytes := 24, zero := [Z.sl] }), (3, { k := TK.int IntKind.i64, agg := false, size := 1, bytes := 8, zero := [Z.i IntKind.i64] }), (4, { k := TK.bool, agg := false, size := 1, bytes := 1, zero := [Z.b] }), (5, { k := TK.int IntKind.u8, agg := false, size := 1, bytes := 1, zero := [Z.i IntKind.u8] }), (161, { k := TK.slice 3, agg := false, size := 1, bytes := 24, zero := [Z.sl] })]
set_option maxRecDepth 100000 in
theorem tab : TabOk Tryz.prog T := tabOk_mk (ts := [55, 3, 4, 5, 161]) (by kernel_rfl)

def iW (b : BitVec 32) : Value := .int .i64 (u b)
theorem ofInt64_u (b : BitVec 32) : (BitVec.ofInt IntKind.i64.bits (u b)).toNat = b.toNat := by
 show (BitVec.ofInt 64 (u b)).toNat = b.toNat
 unfold u
 rw [BitVec.ofInt_natCast, BitVec.toNat_ofNat]
 have := b.isLt
 omega
theorem i_xor (a b : BitVec 32) : IntKind.i64.wrap ((BitVec.ofInt IntKind.i64.bits (u a) ^^^ BitVec.ofInt IntKind.i64.bits (u b)).toNat : Int) = u (a ^^^ b) := by
 rw [BitVec.toNat_xor, ofInt64_u, ofInt64_u, ← BitVec.toNat_xor]
 have := (a ^^^ b).isLt
 rw [wrap64 (by omega) (by omega)]; rfl
theorem i_and (a b : BitVec 32) : IntKind.i64.wrap ((BitVec.ofInt IntKind.i64.bits (u a) &&& BitVec.ofInt IntKind.i64.bits (u b)).toNat : Int) = u (a &&& b) := by
 rw [BitVec.toNat_and, ofInt64_u, ofInt64_u, ← BitVec.toNat_and]
 have := (a &&& b).isLt
 rw [wrap64 (by omega) (by omega)]; rfl
theorem i_not (a : BitVec 32) : IntKind.i64.wrap (4294967295 - u a) = u (~~~ a) := by
 have h := a.isLt
 unfold u
 rw [BitVec.toNat_not, wrap64 (by omega) (by omega)]
 omega
theorem i_shr (a : BitVec 32) (k : Nat) (p : Int) (hp : p = ((2 ^ k : Nat) : Int)) : IntKind.i64.wrap ((u a).tdiv p) = u (a >>> k) := by
 subst hp
 unfold u
 have h := (a >>> k).isLt
 rw [Int.tdiv_eq_ediv_of_nonneg (by omega), ← Int.natCast_ediv]
 rw [BitVec.toNat_ushiftRight, Nat.shiftRight_eq_div_pow] at h ⊢
 generalize a.toNat / 2 ^ k = y at h ⊢
 rw [wrap64 (by omega) (by omega)]
theorem rot_nat (x : BitVec 32) (n : Nat) (h1 : 1 ≤ n) (h2 : n ≤ 31) : x.toNat / 2 ^ n + x.toNat % 2 ^ n * (4294967296 / 2 ^ n) = (x.rotateRight n).toNat := by
 have hp : (4294967296 : Nat) = 2 ^ (32 - n) * 2 ^ n := by rw [← Nat.pow_add, show 32 - n + n = 32 by omega]
 have hq : (4294967296 : Nat) / 2 ^ n = 2 ^ (32 - n) := by rw [hp]; exact Nat.mul_div_cancel _ (Nat.pow_pos (by decide))
 rw [hq, BitVec.toNat_rotateRight, Nat.mod_eq_of_lt (show n < 32 by omega)]
 have hs : x.toNat <<< (32 - n) % 2 ^ 32 = (x.toNat % 2 ^ n) <<< (32 - n) := by
  rw [Nat.shiftLeft_eq, Nat.shiftLeft_eq, show (2 : Nat) ^ 32 = 2 ^ n * 2 ^ (32 - n) by rw [← Nat.pow_add, show n + (32 - n) = 32 by omega], Nat.mul_mod_mul_right]
 rw [hs, Nat.or_comm, Nat.shiftRight_eq_div_pow]
 have hb : x.toNat / 2 ^ n < 2 ^ (32 - n) := by
  rw [Nat.div_lt_iff_lt_mul (Nat.pow_pos (by decide)), ← hp]; exact x.isLt
 rw [← Nat.shiftLeft_add_eq_or_of_lt hb, Nat.shiftLeft_eq, Nat.add_comm]
theorem word_nat (bs : List UInt8) (j : Nat) : (word bs j).toNat = byteN bs (4 * j) * 16777216 + byteN bs (4 * j + 1) * 65536 + byteN bs (4 * j + 2) * 256 + byteN bs (4 * j + 3) := by
 have hb : ∀ i, byteN bs i < 256 := fun i => by unfold byteN; exact (bs.getD i 0).toNat_lt
 have hn : ∀ i, (by32 bs i).toNat = byteN bs i := fun i => by unfold by32; rw [BitVec.toNat_ofNat]; have := hb i; omega
 unfold word
 have h0 := hb (4 * j)
 have h1 := hb (4 * j + 1)
 have h2 := hb (4 * j + 2)
 have h3 := hb (4 * j + 3)
 rw [BitVec.toNat_or, BitVec.toNat_or, BitVec.toNat_or, BitVec.toNat_shiftLeft, BitVec.toNat_shiftLeft, BitVec.toNat_shiftLeft, hn, hn, hn, hn]
 generalize byteN bs (4 * j) = a at *
 generalize byteN bs (4 * j + 1) = b at *
 generalize byteN bs (4 * j + 2) = c at *
 generalize byteN bs (4 * j + 3) = d at *
 rw [Nat.shiftLeft_eq, Nat.shiftLeft_eq, Nat.shiftLeft_eq, Nat.mod_eq_of_lt (by omega), Nat.mod_eq_of_lt (by omega), Nat.mod_eq_of_lt (by omega)]
 have e1 := Nat.shiftLeft_add_eq_or_of_lt (show b * 2 ^ 16 < 2 ^ 24 by omega) a
 have e2 := Nat.shiftLeft_add_eq_or_of_lt (show c * 2 ^ 8 < 2 ^ 16 by omega) (a * 256 + b)
 have e3 := Nat.shiftLeft_add_eq_or_of_lt (show d < 2 ^ 8 by omega) (a * 65536 + b * 256 + c)
 rw [Nat.shiftLeft_eq] at e1 e2 e3
 simp only [Nat.reducePow] at e1 e2 e3 ⊢
 rw [← e1, show a * 16777216 + b * 65536 = (a * 256 + b) * 65536 by clear e1 e2 e3; omega, ← e2, show (a * 256 + b) * 65536 + c * 256 = (a * 65536 + b * 256 + c) * 256 by clear e1 e2 e3; omega, ← e3]
theorem pow_cases : ∀ n : Fin 32, 1 ≤ (2 : Nat) ^ n.val ∧ (2 : Nat) ^ n.val ≤ 2147483648 ∧ IntKind.i64.wrap (1 * 2 ^ min (Int.toNat (n.val : Int)) IntKind.i64.bits) = ((2 ^ n.val : Nat) : Int) := by decide
theorem top (v : Int) (h0 : 0 ≤ v) (H : Hp) : CallO Tryz.prog 124 [pv (.int .i64 v)] H [] fun e H' G' => e = .ret (pv (.int .i64 (v % 4294967296))) ∧ H' = H ∧ G' = [] := by
 refine CallO.of_body tab Tryz.func124 rfl (nt := Tryz.f124.ntmps) rfl (by kernel_rfl) ?_
 (conv => whnf)
 refine ⟨by decide, ?_⟩
 (conv => whnf)
 refine ⟨?_, rfl, rfl⟩
 rw [← show v.tmod 4294967296 = v % 4294967296 from Int.tmod_eq_emod_of_nonneg h0]
 generalize v.tmod 4294967296 = z
 rfl
theorem top2 (x0 x1 : BitVec 32) (H : Hp) : CallO Tryz.prog 124 [pv (.int .i64 (IntKind.i64.wrap (u x0 + u x1)))] H [] fun e H' G' => e = .ret (pv (iW (x0 + x1))) ∧ H' = H ∧ G' = [] := by
 have hx0 := u_lt x0
 have hx1 := u_lt x1
 rw [wrap64 (x := u x0 + u x1) (by omega) (by omega)]
 have h := top (u x0 + u x1) (by omega) H
 rw [show (u x0 + u x1) % 4294967296 = u (x0 + x1) by unfold u; simp only [BitVec.toNat_add]; omega] at h
 exact h
theorem top4 (x0 x1 x2 x3 : BitVec 32) (H : Hp) : CallO Tryz.prog 124 [pv (.int .i64 (IntKind.i64.wrap (IntKind.i64.wrap (IntKind.i64.wrap (u x0 + u x1) + u x2) + u x3)))] H [] fun e H' G' => e = .ret (pv (iW (x0 + x1 + x2 + x3))) ∧ H' = H ∧ G' = [] := by
 have hx0 := u_lt x0
 have hx1 := u_lt x1
 have hx2 := u_lt x2
 have hx3 := u_lt x3
 rw [wrap64 (x := u x0 + u x1) (by omega) (by omega)]
 rw [wrap64 (x := u x0 + u x1 + u x2) (by omega) (by omega)]
 rw [wrap64 (x := u x0 + u x1 + u x2 + u x3) (by omega) (by omega)]
 have h := top (u x0 + u x1 + u x2 + u x3) (by omega) H
 rw [show (u x0 + u x1 + u x2 + u x3) % 4294967296 = u (x0 + x1 + x2 + x3) by unfold u; simp only [BitVec.toNat_add]; omega] at h
 exact h
theorem top5 (x0 x1 x2 x3 x4 : BitVec 32) (H : Hp) : CallO Tryz.prog 124 [pv (.int .i64 (IntKind.i64.wrap (IntKind.i64.wrap (IntKind.i64.wrap (IntKind.i64.wrap (u x0 + u x1) + u x2) + u x3) + u x4)))] H [] fun e H' G' => e = .ret (pv (iW (x0 + x1 + x2 + x3 + x4))) ∧ H' = H ∧ G' = [] := by
 have hx0 := u_lt x0
 have hx1 := u_lt x1
 have hx2 := u_lt x2
 have hx3 := u_lt x3
 have hx4 := u_lt x4
 rw [wrap64 (x := u x0 + u x1) (by omega) (by omega)]
 rw [wrap64 (x := u x0 + u x1 + u x2) (by omega) (by omega)]
 rw [wrap64 (x := u x0 + u x1 + u x2 + u x3) (by omega) (by omega)]
 rw [wrap64 (x := u x0 + u x1 + u x2 + u x3 + u x4) (by omega) (by omega)]
 have h := top (u x0 + u x1 + u x2 + u x3 + u x4) (by omega) H
 rw [show (u x0 + u x1 + u x2 + u x3 + u x4) % 4294967296 = u (x0 + x1 + x2 + x3 + x4) by unfold u; simp only [BitVec.toNat_add]; omega] at h
 exact h
theorem turn (x : BitVec 32) (n : Nat) (h1 : 1 ≤ n) (h2 : n ≤ 31) (H : Hp) : CallO Tryz.prog 125 [pv (iW x), pv (.int .i64 (n : Int))] H [] fun e H' G' => e = .ret (pv (iW (x.rotateRight n))) ∧ H' = H ∧ G' = [] := by
 refine CallO.of_body tab Tryz.func125 rfl (nt := Tryz.f125.ntmps) rfl (by kernel_rfl) ?_
 (conv => whnf)
 refine ⟨by omega, ?_⟩
 (conv => whnf)
 obtain ⟨p1, p2, p3⟩ := pow_cases ⟨n, by omega⟩
 simp only at p1 p2 p3
 rw [p3]
 refine WS.draw tab mixed (.take 0 (.take 1 (.take 2 (.take 3 (.take 4 (.take 5 (.take 6 (.take 7 (.take 8 (.take 9 (.take 10 .done))))))))))) (by kernel_rfl) [] ?_
 (conv => whnf)
 refine ⟨by omega, ?_⟩
 (conv => whnf)
 refine ⟨by omega, ?_⟩
 (conv => whnf)
 refine ⟨by omega, ?_⟩
 (conv => whnf)
 have hr := rot_nat x n h1 h2
 have hb := (x.rotateRight n).isLt
 rw [← hr] at hb
 have e1 : (u x).tdiv ((2 ^ n : Nat) : Int) = ((x.toNat / 2 ^ n : Nat) : Int) := by unfold u; rw [Int.tdiv_eq_ediv_of_nonneg (by omega), ← Int.natCast_ediv]
 have e2 : (u x).tmod ((2 ^ n : Nat) : Int) = ((x.toNat % 2 ^ n : Nat) : Int) := by unfold u; rw [Int.tmod_eq_emod_of_nonneg (by omega), ← Int.natCast_emod]
 have e3 : Int.tdiv 4294967296 ((2 ^ n : Nat) : Int) = ((4294967296 / 2 ^ n : Nat) : Int) := by rw [Int.tdiv_eq_ediv_of_nonneg (by omega)]; exact (Int.natCast_ediv 4294967296 (2 ^ n)).symm
 refine ⟨?_, rfl, rfl⟩
 have e5 : (4294967296 / 2 ^ n : Nat) ≤ 4294967296 := Nat.div_le_self _ _
 rw [e1, e2, e3]
 rw [show pv (iW (x.rotateRight n)) = pv (.int .i64 (((x.rotateRight n).toNat : Nat) : Int)) from rfl, ← hr]
 clear e1 e2 e3 hr
 generalize (4294967296 : Nat) / 2 ^ n = q at *
 rw [wrap64 (x := (q : Int)) (by omega) (by omega), ← Int.natCast_mul]
 generalize x.toNat % 2 ^ n * q = z at *
 generalize x.toNat / 2 ^ n = y at *
 rw [wrap64 (x := (y : Int)) (by omega) (by omega), wrap64 (x := (z : Int)) (by omega) (by omega), wrap64 (by omega) (by omega), ← Int.natCast_add]
 rfl
theorem word_ (j n : Nat) (bs : List UInt8) (a : Addr) (cap : Nat) (hj : 4 * j + 3 < n) (H : Hp) (hb : BytesAt H (some a) n bs) (hl : n ≤ 1000000) : CallO Tryz.prog 156 [pv (.slice (some a) n cap), pv (.int .i64 ((4 * j : Nat) : Int))] H [] fun e H' G' => e = .ret (pv (iW (word bs j))) ∧ H' = H ∧ G' = [] := by
 refine CallO.of_body tab Tryz.func156 rfl (nt := Tryz.f156.ntmps) rfl (by kernel_rfl) ?_
 (conv => whnf)
 refine WS.draw tab mixed (.take 0 (.take 1 (.take 2 (.take 3 (.take 4 (.take 5 (.take 6 (.take 7 (.take 8 (.take 9 (.take 10 (.take 11 (.take 12 (.take 13 (.take 14 (.take 15 (.take 16 (.take 17 (.take 18 (.take 19 (.take 20 (.take 21 (.take 22 (.take 23 (.take 24 (.take 25 (.take 26 (.take 27 (.take 28 (.take 29 .done)))))))))))))))))))))))))))))) (by kernel_rfl) [] ?_
 (conv => whnf)
 obtain ⟨hn, -, hrd⟩ := hb
 obtain ⟨b, o, hab, hrd⟩ := hrd a rfl
 have q1 : IntKind.i64.wrap (((4 * j : Nat) : Int) + 1) = ((4 * j + 1 : Nat) : Int) := by rw [wrap64 (by omega) (by omega)]; omega
 have q2 : IntKind.i64.wrap (((4 * j : Nat) : Int) + 2) = ((4 * j + 2 : Nat) : Int) := by rw [wrap64 (by omega) (by omega)]; omega
 have q3 : IntKind.i64.wrap (((4 * j : Nat) : Int) + 3) = ((4 * j + 3 : Nat) : Int) := by rw [wrap64 (by omega) (by omega)]; omega
 have rdb : ∀ i, i < bs.length → ∀ off, off = i → RdC H (some a) off (.int .u8 (byteN bs i)) := fun i hi off ho => ⟨b, o, hab, hrd _ _ (bget hi ho)⟩
 refine ⟨⟨by omega, by omega⟩, ⟨b, o, hab⟩, ?_⟩
 (conv => whnf)
 refine ⟨_, rdb (4 * j) (by omega) _ (by simp; omega), ?_⟩
 (conv => whnf)
 rw [q1]
 refine ⟨⟨by omega, by omega⟩, ⟨b, o, hab⟩, ?_⟩
 (conv => whnf)
 refine ⟨_, rdb (4 * j + 1) (by omega) _ (by simp; omega), ?_⟩
 (conv => whnf)
 rw [q2]
 refine ⟨⟨by omega, by omega⟩, ⟨b, o, hab⟩, ?_⟩
 (conv => whnf)
 refine ⟨_, rdb (4 * j + 2) (by omega) _ (by simp; omega), ?_⟩
 (conv => whnf)
 rw [q3]
 refine ⟨⟨by omega, by omega⟩, ⟨b, o, hab⟩, ?_⟩
 (conv => whnf)
 refine ⟨_, rdb (4 * j + 3) (by omega) _ (by simp; omega), ?_⟩
 (conv => whnf)
 refine ⟨?_, rfl, rfl⟩
 have hB : ∀ i, byteN bs i < 256 := fun i => by unfold byteN; exact (bs.getD i 0).toNat_lt
 have h0 := hB (4 * j)
 have h1 := hB (4 * j + 1)
 have h2 := hB (4 * j + 2)
 have h3 := hB (4 * j + 3)
 show SE.ret (pv (.int .i64 _)) = SE.ret (pv (.int .i64 (((word bs j).toNat : Nat) : Int)))
 rw [word_nat]
 generalize byteN bs (4 * j) = a0 at *
 generalize byteN bs (4 * j + 1) = a1 at *
 generalize byteN bs (4 * j + 2) = a2 at *
 generalize byteN bs (4 * j + 3) = a3 at *
 congr 3
 rw [wrap64 (x := (a0 : Int)) (by omega) (by omega), wrap64 (x := (a1 : Int)) (by omega) (by omega), wrap64 (x := (a2 : Int)) (by omega) (by omega), wrap64 (x := (a3 : Int)) (by omega) (by omega),
  wrap64 (x := (a0 : Int) * 16777216) (by omega) (by omega), wrap64 (x := (a1 : Int) * 65536) (by omega) (by omega), wrap64 (x := (a2 : Int) * 256) (by omega) (by omega),
  wrap64 (x := (a0 : Int) * 16777216 + (a1 : Int) * 65536) (by omega) (by omega), wrap64 (x := (a0 : Int) * 16777216 + (a1 : Int) * 65536 + (a2 : Int) * 256) (by omega) (by omega), wrap64 (by omega) (by omega)]
 omega
theorem keys_ (H : Hp) : CallO Tryz.prog 121 [] H [] fun e H' G' => (∃ a, e = .ret (pv (.slice (some a) 64 64)) ∧ RdN H' (some a) 0 (kTab.map iW)) ∧ G' = [] := by
 refine CallO.of_body tab Tryz.func121 rfl (nt := Tryz.f121.ntmps) rfl (by kernel_rfl) ?_
 (conv => whnf)
 refine ⟨by decide, .inl ?_⟩
 intro g H2 hle hrd
 (conv => whnf)
 exact ⟨⟨_, rfl, hrd⟩, rfl⟩
theorem first_ (H : Hp) : CallO Tryz.prog 122 [] H [] fun e H' G' => e = .ret (.si (.ce (.self 0))) ∧ H' = H ∧ G' = [.row 3 1 8 [iW init8.a, iW init8.b, iW init8.c, iW init8.d, iW init8.e, iW init8.f, iW init8.g, iW init8.h]] := by
 refine CallO.of_body tab Tryz.func122 rfl (nt := Tryz.f122.ntmps) rfl (by kernel_rfl) ?_
 (conv => whnf)
 refine ⟨by decide, .inr ⟨rfl, ?_⟩⟩
 (conv => whnf)
 exact ⟨rfl, rfl, rfl⟩
end Ref1
end Go.Kx.Sha
namespace Go.Kx.Sha
open Go.Proofs Go.Kx
set_option maxRecDepth 20000
namespace Ref1

def iCells (l : List (BitVec 32)) : List Value := l.map iW
theorem iget {bs : List UInt8} {t i off : Nat} (hi : i < t) (ho : off = i) : (iCells (schedN bs t))[off]? = some (iW ((schedN bs t).getD i 0)) := by
  subst ho
  have hl := schedN_length bs t
  unfold iCells
  rw [List.getElem?_map, List.getElem?_eq_getElem (by omega), List.getD_eq_getElem?_getD, List.getElem?_eq_getElem (by omega)]
  rfl
theorem iRow_succ {bs : List UInt8} {t n : Nat} {w : BitVec 32} (hw : schedN bs (t + 1) = schedN bs t ++ [w]) (hn : n = t + 1) : SB.row 3 1 n (iCells (schedN bs t) ++ [iW w]) = SB.row 3 1 (t + 1) (iCells (schedN bs (t + 1))) := by
  subst hn
  rw [hw]
  unfold iCells
  rw [List.map_append]
  rfl
def SI1 (bs : List UInt8) (a : Addr) (cap : Nat) (H : Hp) (m : Nat) (F : Fr) (H2 : Hp) (G : List SB) : Prop :=
  ∃ t : Nat, t ≤ 16 ∧ m = 16 - t ∧ F = [(0, pv (.slice (some a) 64 cap)), (3, .si (.ce (.self 0))), (4, pv (.int .i64 t))] ∧ H.Le H2 ∧ G = [.row 3 1 t (iCells (schedN bs t))]
def SI2 (bs : List UInt8) (H : Hp) (m : Nat) (F : Fr) (H2 : Hp) (G : List SB) : Prop :=
  ∃ t : Nat, 16 ≤ t ∧ t ≤ 64 ∧ m = 64 - t ∧ F = [(3, .si (.ce (.self 0))), (5, pv (.int .i64 t))] ∧ H.Le H2 ∧ G = [.row 3 1 t (iCells (schedN bs t))]
theorem schedule (bs : List UInt8) (a : Addr) (cap : Nat) (H : Hp) (hb : BytesAt H (some a) 64 bs) : CallO Tryz.prog 123 [pv (.slice (some a) 64 cap)] H [] fun e _ G' =>
    e = .ret (.si (.ce (.self 0))) ∧ G' = [.row 3 1 64 (iCells (schedN bs 64))] := by
  refine CallO.of_body tab Tryz.func123 rfl (nt := Tryz.f123.ntmps) rfl (by kernel_rfl) ?_
  (conv => whnf)
  refine WS.nilRow 3 3 1 rfl ?_
  (conv => whnf)
  refine WS.loop (SI1 bs a cap H) 17 ?_ ?_
  · refine ⟨16, by omega, _, _, [0], ⟨0, by omega, rfl, rfl, .refl _, rfl⟩, ?_⟩
    exact ⟨rfl, ⟨rfl, trivial⟩, rfl, rfl, rfl, trivial⟩
  rintro m F H2 G hle ⟨t, h2, rfl, rfl, hle2, rfl⟩
  refine codeL.go tab ?_
  (conv => whnf)
  refine br.of (fun h1 => ?_) (fun h1 => ?_) <;> (conv => whnf)
  · simp only [decide_eq_true_eq] at h1
    rw [wrap64 (x := 4 * (t : Int)) (by omega) (by omega), show 4 * (t : Int) = ((4 * t : Nat) : Int) by omega]
    refine ⟨⟨_, Tryz.func156, rfl, by kernel_rfl⟩, CallS.use (word_ t 64 bs a cap (by omega) H2 (hb.mono hle2) (by omega)) [] rfl rfl trivial ?_⟩
    rintro e H3 G' hle3 ⟨rfl, rfl, rfl⟩
    (conv => whnf)
    refine ⟨by decide, .inl ?_⟩
    intro g H4 hle4 hrd
    (conv => whnf)
    refine ⟨_, rfl, hrd, one_int _ _, ?_⟩
    (conv => whnf)
    refine ⟨by show _ * 9 ≤ _; omega, ?_⟩
    (conv => whnf)
    rw [wrap64 (x := (t : Int) + 1) (by omega) (by omega)]
    refine ⟨16 - (t + 1), by omega, _, _, [1], ⟨t + 1, by omega, rfl, rfl, hle2.trans hle4, rfl⟩, ?_⟩
    refine ⟨rfl, ⟨?_, trivial⟩, rfl, rfl, rfl, trivial⟩
    refine iRow_succ (w := word bs t) ?_ rfl
    show schedN bs t ++ [if t < 16 then _ else _] = _
    rw [if_pos (by omega)]
  · simp only [decide_eq_false_iff_not] at h1
    obtain rfl : t = 16 := by omega
    refine WS.loop (SI2 bs H) 49 ?_ ?_
    · refine ⟨48, by omega, _, _, [0], ⟨16, by omega, by omega, rfl, rfl, hle2, rfl⟩, ?_⟩
      exact ⟨rfl, ⟨rfl, trivial⟩, rfl, rfl, trivial⟩
    rintro m F H3 G hle3 ⟨t, h2, h3, rfl, rfl, hle4, rfl⟩
    refine codeL.go tab ?_
    (conv => whnf)
    refine br.of (fun h1 => ?_) (fun h1 => ?_) <;> (conv => whnf)
    · simp only [decide_eq_true_eq] at h1
      have q15 : IntKind.i64.wrap ((t : Int) - 15) = ((t - 15 : Nat) : Int) := by rw [wrap64 (by omega) (by omega)]; omega
      have q2 : IntKind.i64.wrap ((t : Int) - 2) = ((t - 2 : Nat) : Int) := by rw [wrap64 (by omega) (by omega)]; omega
      have q7 : IntKind.i64.wrap ((t : Int) - 7) = ((t - 7 : Nat) : Int) := by rw [wrap64 (by omega) (by omega)]; omega
      have q16 : IntKind.i64.wrap ((t : Int) - 16) = ((t - 16 : Nat) : Int) := by rw [wrap64 (by omega) (by omega)]; omega
      rw [q15]
      refine ⟨⟨by omega, by omega⟩, ?_⟩
      (conv => whnf)
      refine ⟨_, iget (i := t - 15) (by omega) (by simp), ?_⟩
      (conv => whnf)
      rw [q2]
      refine ⟨⟨by omega, by omega⟩, ?_⟩
      (conv => whnf)
      refine ⟨_, iget (i := t - 2) (by omega) (by simp), ?_⟩
      (conv => whnf)
      generalize hx2 : (schedN bs t).getD (t - 2) 0 = x2
      generalize hx15 : (schedN bs t).getD (t - 15) 0 = x15
      refine ⟨⟨_, Tryz.func125, rfl, by kernel_rfl⟩, CallS.use (turn x15 7 (by decide) (by decide) _) [] rfl rfl trivial ?_⟩
      rintro e H4 G' hle5 ⟨rfl, rfl, rfl⟩
      (conv => whnf)
      refine ⟨⟨_, Tryz.func125, rfl, by kernel_rfl⟩, CallS.use (turn x15 18 (by decide) (by decide) _) [] rfl rfl trivial ?_⟩
      rintro e H5 G' hle6 ⟨rfl, rfl, rfl⟩
      (conv => whnf)
      refine ⟨by decide, ?_⟩
      (conv => whnf)
      refine ⟨⟨_, Tryz.func125, rfl, by kernel_rfl⟩, CallS.use (turn x2 17 (by decide) (by decide) _) [] rfl rfl trivial ?_⟩
      rintro e H6 G' hle7 ⟨rfl, rfl, rfl⟩
      (conv => whnf)
      refine ⟨⟨_, Tryz.func125, rfl, by kernel_rfl⟩, CallS.use (turn x2 19 (by decide) (by decide) _) [] rfl rfl trivial ?_⟩
      rintro e H7 G' hle8 ⟨rfl, rfl, rfl⟩
      (conv => whnf)
      refine ⟨by decide, ?_⟩
      rw [i_xor, i_shr _ 3 8 rfl, i_xor, i_xor, i_shr _ 10 1024 rfl]
      (conv => whnf)
      rw [i_xor]
      refine WS.draw tab mixed (.take 0 (.take 1 (.take 2 (.take 3 (.take 4 (.take 8 (.take 10 (.take 11 (.take 12 (.alt 5 (.alt 6 (.take 7 (.take 9 (.alt 13 (.alt 14 (.take 15 (.alt 16 (.alt 17 (.alt 18 (.take 19 .done) .no) .no) .no)) .no) .no))) (.alt 13 (.alt 6 (.take 7 (.take 9 (.alt 14 (.take 15 (.alt 16 (.alt 17 (.alt 18 (.take 19 .done) .no) .no) .no)) .no))) (.alt 14 (.alt 6 (.take 7 (.take 9 (.take 15 (.alt 16 (.alt 17 (.alt 18 (.take 19 .done) .no) .no) .no)))) .no) .no)) .no)) (.alt 13 (.alt 5 (.alt 6 (.take 7 (.take 9 (.alt 14 (.take 15 (.alt 16 (.alt 17 (.alt 18 (.take 19 .done) .no) .no) .no)) .no))) (.alt 14 (.alt 6 (.take 7 (.take 9 (.take 15 (.alt 16 (.alt 17 (.alt 18 (.take 19 .done) .no) .no) .no)))) .no) .no)) (.alt 14 (.alt 5 (.alt 6 (.take 7 (.take 9 (.take 15 (.alt 16 (.alt 17 (.alt 18 (.take 19 .done) .no) .no) .no)))) .no) .no) .no)) .no))))))))))) (by kernel_rfl) [0] ?_
      have i7 : 0 ≤ IntKind.i64.wrap ((t : Int) - 7) ∧ IntKind.i64.wrap ((t : Int) - 7) < (t : Int) := by rw [q7]; omega
      have i16 : 0 ≤ IntKind.i64.wrap ((t : Int) - 16) ∧ IntKind.i64.wrap ((t : Int) - 16) < (t : Int) := by rw [q16]; omega
      generalize hw7 : (schedN bs t).getD (t - 7) 0 = x7
      generalize hw16 : (schedN bs t).getD (t - 16) 0 = x16
      have l7 : ∀ off, off = t - 7 → (iCells (schedN bs t))[off]? = some (iW x7) := fun off ho => by rw [← hw7]; exact iget (by omega) ho
      have l16 : ∀ off, off = t - 16 → (iCells (schedN bs t))[off]? = some (iW x16) := fun off ho => by rw [← hw16]; exact iget (by omega) ho
      have hw : schedN bs (t + 1) = schedN bs t ++ [sg1 x2 + x7 + sg0 x15 + x16] := by
        show schedN bs t ++ [if t < 16 then _ else _] = _
        rw [if_neg (by omega), hx2, hw7, hx15, hw16]
      (conv => whnf)
      repeat' (first
        | exact trivial
        | exact rfl
        | exact ⟨_, Tryz.func124, rfl, by kernel_rfl⟩
        | (refine ⟨i7, ?_⟩; (conv => whnf))
        | (refine ⟨i16, ?_⟩; (conv => whnf))
        | (refine ⟨_, l7 _ (by rw [q7]; simp), ?_⟩; (conv => whnf))
        | (refine ⟨_, l16 _ (by rw [q16]; simp), ?_⟩; (conv => whnf))
        | (refine CallS.use (top4 (sg1 x2) x7 (sg0 x15) x16 _) [] rfl rfl trivial ?_; rintro e H8 G' hle9 ⟨rfl, rfl, rfl⟩; (conv => whnf))
        | (refine ⟨by decide, .inl ?_⟩; intro g H9 hle10 hrd; (conv => whnf))
        | (refine ⟨_, rfl, hrd, one_int _ _, ?_⟩; (conv => whnf))
        | (refine ⟨by show _ * 9 ≤ _; omega, ?_⟩; (conv => whnf))
        | (rw [wrap64 (x := (t : Int) + 1) (by omega) (by omega)]
           refine ⟨64 - (t + 1), by omega, _, _, [1], ⟨t + 1, by omega, by omega, rfl, rfl, hle4.trans hle10, rfl⟩, ?_⟩
           refine ⟨rfl, ⟨?_, trivial⟩, rfl, rfl, trivial⟩
           exact iRow_succ hw rfl)
        | (refine And.intro ?_ ?_ <;> (conv => whnf)))
    · simp only [decide_eq_false_iff_not] at h1
      obtain rfl : t = 64 := by omega
      exact ⟨rfl, rfl⟩
end Ref1
end Go.Kx.Sha
