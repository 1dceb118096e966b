/- The reference of layer 13: claims' text. No condition of its own. -/
import Derived.Test.YtdknmcaemebgfaaGreatDoorMU17
namespace Go.Kx.Rf
open Go.Proofs Go.Kx Go.RowKit Go.Kx.Js Go.Kx.Pr Go.Kx.Cl Go.Kx.Se Go.Kx.Lb Go.Kx.Jw Go.Kx.Ob
set_option maxRecDepth 20000
set_option linter.unusedSimpArgs false
namespace Tx
def T : Tab := [(9, { k := TK.string, agg := false, size := 1, bytes := 16, zero := [Z.s] }), (28, { k := TK.st [(0, 9, 1), (1, 9, 1), (2, 9, 1), (3, 3, 1), (4, 9, 1), (5, 9, 1), (6, 9, 1), (7, 9, 1), (8, 3, 1), (9, 9, 1)], agg := true, size := 10, bytes := 144, zero := [Z.s, Z.s, Z.s, Z.i IntKind.i64, Z.s, Z.s, Z.s, Z.s, Z.i IntKind.i64, Z.s] }), (3, { k := TK.int IntKind.i64, agg := false, size := 1, bytes := 8, zero := [Z.i IntKind.i64] }), (84, { k := TK.ar 6 9 1, agg := true, size := 6, bytes := 96, zero := [Z.s, Z.s, Z.s, Z.s, Z.s, Z.s] }), (4, { k := TK.bool, agg := false, size := 1, bytes := 1, zero := [Z.b] }), (5, { k := TK.int IntKind.u8, agg := false, size := 1, bytes := 1, zero := [Z.i IntKind.u8] }), (55, { k := TK.slice 5, agg := false, size := 1, bytes := 24, zero := [Z.sl] })]
set_option maxRecDepth 100000 in
theorem tab : TabOk Tryz.prog T := tabOk_mk (ts := [9, 28, 3, 84, 4, 5, 55]) (by kernel_rfl)
end Tx
theorem cl_w (c : Clm) : wrJ (clJ c) = ([123, 34, 105, 115, 115, 34, 58] : List UInt8) ++ (quoteB (tL c.iss) ++ (([44, 34, 106, 116, 105, 34, 58] : List UInt8) ++ (quoteB (tL c.jti) ++ (([44, 34, 105, 97, 116, 34, 58] : List UInt8) ++ ((Lb.itoaB c.iat).data.toList ++ (([44, 34, 97, 117, 100, 34, 58] : List UInt8) ++ (quoteB (tL c.aud) ++ (([44, 34, 116, 120, 110, 34, 58] : List UInt8) ++ (quoteB (tL c.txn) ++ (([44, 34, 115, 117, 98, 95, 105, 100, 34, 58] : List UInt8) ++ (wrJ (subJ c.sub) ++ (([44, 34, 101, 118, 101, 110, 116, 115, 34, 58, 123] : List UInt8) ++ (quoteB (tL (nameK c.kind)) ++ (([58] : List UInt8) ++ (wrJ (objJ (evMs c)) ++ ([125, 125] : List UInt8)))))))))))))))) := by
 have e : wrJ (numJ c.iat) = (Lb.itoaB c.iat).data.toList := by unfold numJ; simp [wrJ]
 have h : wrJ (clJ c) = [123] ++ wrMs true (clMs c) ++ [125] := by unfold clJ; generalize clMs c = m; simp only [objJ, wrJ]; rfl
 have h2 : wrJ (evJ c) = [123] ++ wrMs true [(nameK c.kind, objJ (evMs c))] ++ [125] := by unfold evJ; simp only [objJ, wrJ]; rfl
 rw [h]
 unfold clMs
 simp only [wrMs, wr_str, e]
 rw [h2]
 simp only [wrMs]
 rw [show quoteB sIss.data.toList = ([34, 105, 115, 115, 34] : List UInt8) from by decide +kernel, show quoteB sJti.data.toList = ([34, 106, 116, 105, 34] : List UInt8) from by decide +kernel, show quoteB sIat.data.toList = ([34, 105, 97, 116, 34] : List UInt8) from by decide +kernel, show quoteB sAud.data.toList = ([34, 97, 117, 100, 34] : List UInt8) from by decide +kernel, show quoteB sTxn.data.toList = ([34, 116, 120, 110, 34] : List UInt8) from by decide +kernel, show quoteB sSubId.data.toList = ([34, 115, 117, 98, 95, 105, 100, 34] : List UInt8) from by decide +kernel, show quoteB sEvents.data.toList = ([34, 101, 118, 101, 110, 116, 115, 34] : List UInt8) from by decide +kernel]
 unfold tL
 simp
theorem rs_w (c : Clm) (h : c.reason ≠ ⟨#[]⟩) : wrJ (objJ (evMs c)) = ([123, 34, 114, 101, 97, 115, 111, 110, 34, 58] : List UInt8) ++ (quoteB (tL c.reason) ++ ([125] : List UInt8)) := by
 unfold evMs
 rw [if_neg (by rw [strEq_iff]; exact h)]
 simp only [objJ, wrJ, wrMs, wr_str]
 rw [show quoteB sReason.data.toList = ([34, 114, 101, 97, 115, 111, 110, 34] : List UInt8) from by decide +kernel]
 unfold tL
 simp
theorem getC_of {G : List SC} {k : Nat} {s : SC} {K : SC → Prop} (h : G[k]? = some s) (hk : K s) : getC G k K := by
 induction G generalizing k with
 | nil => simp at h
 | cons a r ih =>
  cases k with
  | zero => simp only [List.getElem?_cons_zero, Option.some.injEq] at h; subst h; exact hk
  | succ k => exact ih (by simpa using h)
abbrev tails : List SC := [.val (.string (⟨#[99, 97, 101, 112, 47, 101, 118, 101, 110, 116, 45, 116, 121, 112, 101, 47, 115, 101, 115, 115, 105, 111, 110, 45, 114, 101, 118, 111, 107, 101, 100]⟩ : ByteArray)), .val (.string (⟨#[99, 97, 101, 112, 47, 101, 118, 101, 110, 116, 45, 116, 121, 112, 101, 47, 99, 114, 101, 100, 101, 110, 116, 105, 97, 108, 45, 99, 104, 97, 110, 103, 101]⟩ : ByteArray)), .val (.string (⟨#[114, 105, 115, 99, 47, 101, 118, 101, 110, 116, 45, 116, 121, 112, 101, 47, 97, 99, 99, 111, 117, 110, 116, 45, 100, 105, 115, 97, 98, 108, 101, 100]⟩ : ByteArray)), .val (.string (⟨#[114, 105, 115, 99, 47, 101, 118, 101, 110, 116, 45, 116, 121, 112, 101, 47, 97, 99, 99, 111, 117, 110, 116, 45, 101, 110, 97, 98, 108, 101, 100]⟩ : ByteArray)), .val (.string (⟨#[99, 97, 101, 112, 47, 101, 118, 101, 110, 116, 45, 116, 121, 112, 101, 47, 116, 111, 107, 101, 110, 45, 99, 108, 97, 105, 109, 115, 45, 99, 104, 97, 110, 103, 101]⟩ : ByteArray)), .val (.string (⟨#[115, 115, 101, 47, 101, 118, 101, 110, 116, 45, 116, 121, 112, 101, 47, 118, 101, 114, 105, 102, 105, 99, 97, 116, 105, 111, 110]⟩ : ByteArray))]
theorem tail_nm {k : Int} (h : 1 ≤ k ∧ k ≤ 6) : ∃ nm : ByteArray, tails[0 + (k - 1).toNat * 1]? = some (.val (.string nm)) ∧ nm.size ≤ 40 ∧ quoteB (tL (nameK k)) = ([34, 104, 116, 116, 112, 115, 58, 47, 47, 115, 99, 104, 101, 109, 97, 115, 46, 111, 112, 101, 110, 105, 100, 46, 110, 101, 116, 47, 115, 101, 99, 101, 118, 101, 110, 116, 47] : List UInt8) ++ (nm.data.toList ++ [34]) := by
 have h6 : k = 1 ∨ k = 2 ∨ k = 3 ∨ k = 4 ∨ k = 5 ∨ k = 6 := by omega
 rcases h6 with rfl | rfl | rfl | rfl | rfl | rfl <;> exact ⟨_, rfl, by decide, by decide +kernel⟩
theorem text_ (c : Clm) (h : RightC c) (H : Hp) : CallO Tryz.prog 15 [.si (.ag (cs10 c.iss c.jti c.aud c.iat c.txn c.sub.fmt c.sub.id c.sub.own c.kind c.reason))] H [] fun e H' G' => e = .ret (pv (.string ⟨(wrJ (clJ c)).toArray⟩)) ∧ H.Le H' ∧ G' = [] := by
 have k1 : 1 ≤ c.kind ∧ c.kind ≤ 6 := h.kind
 have b1 := (word_size h.iss).1
 have b2 := (word_size h.jti).1
 have b3 := (word_size h.aud).1
 have b4 := (word_size h.txn).1
 have hsub := h.sub
 have hiat := h.iat
 have hcw := cl_w c
 have hrw := rs_w c
 have hre : c.reason.size ≤ 256 := by rcases h.reason with e | e; rw [e]; decide; exact (word_size e).1
 obtain ⟨iss, jti, aud, iat, txn, ⟨sf, si, so⟩, kind, reason⟩ := c
 obtain ⟨txt, htx⟩ : ∃ t, t = wrJ (clJ ⟨iss, jti, aud, iat, txn, ⟨sf, si, so⟩, kind, reason⟩) := ⟨_, rfl⟩
 rw [← htx] at hcw ⊢
 dsimp only at *
 refine CallO.of_body Tx.tab Tryz.func15 rfl (nt := Tryz.f15.ntmps) rfl (by kernel_rfl) ?_
 (conv => whnf)
 obtain ⟨nm, hnm, hnz, hnq⟩ := tail_nm k1
 have hs3 : (Lb.itoaB iat).size ≤ 15 := by
  obtain ⟨m, rfl⟩ : ∃ m : Nat, iat = m := ⟨iat.toNat, by omega⟩
  exact Dg.itoa_le m (by omega)
 cases hrs : strEq reason ⟨#[]⟩
 ·(conv => whnf)
  refine ⟨⟨_, Tryz.func45, rfl, by kernel_rfl⟩, CallS.use (quoteS reason (by omega) H) [] rfl rfl trivial ?_⟩
  rintro e H2 G' hle ⟨⟨q, rfl, hq, hqs⟩, rfl, rfl⟩
  (conv => whnf)
  refine ⟨add_ok (n := 100) (by decide) hqs (by decide), ?_⟩
  (conv => whnf)
  refine ⟨add_ok (add_le (n := 100) (by decide) hqs) (m := 1) (by decide) (by decide), ?_⟩
  (conv => whnf)
  have hr1 : ((⟨([123, 34, 114, 101, 97, 115, 111, 110, 34, 58] : List UInt8).toArray⟩ : ByteArray) ++ q ++ ⟨#[125]⟩).data.toList = wrJ (objJ (evMs ⟨iss, jti, aud, iat, txn, ⟨sf, si, so⟩, kind, reason⟩)) := by
   rw [hrw ((strEq_false ..).1 hrs)]
   simp only [ByteArray.data_append, Array.toList_append, hq]
   simp
  have hr2 : ((⟨([123, 34, 114, 101, 97, 115, 111, 110, 34, 58] : List UInt8).toArray⟩ : ByteArray) ++ q ++ ⟨#[125]⟩).size ≤ 6201 := Nat.le_trans (add_le (add_le (n := 100) (by decide) hqs) (m := 1) (by decide)) (by decide)
  generalize (⟨([123, 34, 114, 101, 97, 115, 111, 110, 34, 58] : List UInt8).toArray⟩ : ByteArray) ++ q ++ ⟨#[125]⟩ = rs at hr1 hr2 ⊢
  refine WS.draw Tx.tab Rf.mixed (.take 0 (.take 1 (.take 5 (.take 6 (.take 10 (.take 11 (.take 15 (.take 16 (.take 20 (.take 21 (.take 25 (.take 29 (.take 30 (.take 31 (.take 32 (.take 33 (.take 36 (.alt 2 (.take 3 (.take 4 (.alt 7 (.take 8 (.take 9 (.alt 12 (.take 13 (.take 14 (.alt 17 (.take 18 (.take 19 (.alt 22 (.take 23 (.take 24 (.alt 26 (.take 27 (.take 28 (.take 34 (.take 35 (.take 37 (.take 38 (.take 39 .done))))))) .no))) .no))) .no))) .no))) .no))) .no)))))))))))))))))) (by kernel_rfl) [] ?_
  (conv => whnf)
  rw [wrap64 (x := kind - 1) (by omega) (by omega)]
  refine ⟨⟨by omega, by omega⟩, ?_⟩
  (conv => whnf)
  refine getC_of hnm ?_
  (conv => whnf)
  refine And.intro ?_ ?_ <;> (conv => whnf)
  rotate_left
  ·exact trivial
  refine ⟨⟨_, Tryz.func45, rfl, by kernel_rfl⟩, CallS.use (quoteS iss (by omega) _) [] rfl rfl trivial ?_⟩
  rintro e Hx1 G' hlex1 ⟨⟨q1, rfl, hq1, hs1⟩, rfl, rfl⟩
  (conv => whnf)
  refine ⟨⟨rfl, rfl, trivial⟩, ?_⟩
  (conv => whnf)
  refine ⟨add_ok (n := 100) (by decide) hs1 (by decide), ?_⟩
  (conv => whnf)
  refine ⟨add_ok (add_le (n := 100) (by decide) hs1) (m := 100) (by decide) (by decide), ?_⟩
  (conv => whnf)
  refine And.intro ?_ ?_ <;> (conv => whnf)
  rotate_left
  ·exact trivial
  refine ⟨⟨_, Tryz.func45, rfl, by kernel_rfl⟩, CallS.use (quoteS jti (by omega) _) [] rfl rfl trivial ?_⟩
  rintro e Hx2 G' hlex2 ⟨⟨q2, rfl, hq2, hs2⟩, rfl, rfl⟩
  (conv => whnf)
  refine ⟨⟨rfl, rfl, trivial⟩, ?_⟩
  (conv => whnf)
  refine ⟨add_ok (add_le (add_le (n := 100) (by decide) hs1) (m := 100) (by decide)) hs2 (by decide), ?_⟩
  (conv => whnf)
  refine ⟨add_ok (add_le (add_le (add_le (n := 100) (by decide) hs1) (m := 100) (by decide)) hs2) (m := 100) (by decide) (by decide), ?_⟩
  (conv => whnf)
  refine And.intro ?_ ?_ <;> (conv => whnf)
  rotate_left
  ·exact trivial
  refine ⟨⟨_, Tryz.func46, rfl, by kernel_rfl⟩, CallS.use (digits13 iat hiat.1 hiat.2 _) [] rfl rfl trivial ?_⟩
  rintro e Hx3 G' hlex3 ⟨rfl, rfl⟩
  (conv => whnf)
  refine ⟨⟨rfl, rfl, trivial⟩, ?_⟩
  (conv => whnf)
  refine ⟨add_ok (add_le (add_le (add_le (add_le (n := 100) (by decide) hs1) (m := 100) (by decide)) hs2) (m := 100) (by decide)) hs3 (by decide), ?_⟩
  (conv => whnf)
  refine ⟨add_ok (add_le (add_le (add_le (add_le (add_le (n := 100) (by decide) hs1) (m := 100) (by decide)) hs2) (m := 100) (by decide)) hs3) (m := 100) (by decide) (by decide), ?_⟩
  (conv => whnf)
  refine And.intro ?_ ?_ <;> (conv => whnf)
  rotate_left
  ·exact trivial
  refine ⟨⟨_, Tryz.func45, rfl, by kernel_rfl⟩, CallS.use (quoteS aud (by omega) _) [] rfl rfl trivial ?_⟩
  rintro e Hx4 G' hlex4 ⟨⟨q4, rfl, hq4, hs4⟩, rfl, rfl⟩
  (conv => whnf)
  refine ⟨⟨rfl, rfl, trivial⟩, ?_⟩
  (conv => whnf)
  refine ⟨add_ok (add_le (add_le (add_le (add_le (add_le (add_le (n := 100) (by decide) hs1) (m := 100) (by decide)) hs2) (m := 100) (by decide)) hs3) (m := 100) (by decide)) hs4 (by decide), ?_⟩
  (conv => whnf)
  refine ⟨add_ok (add_le (add_le (add_le (add_le (add_le (add_le (add_le (n := 100) (by decide) hs1) (m := 100) (by decide)) hs2) (m := 100) (by decide)) hs3) (m := 100) (by decide)) hs4) (m := 100) (by decide) (by decide), ?_⟩
  (conv => whnf)
  refine And.intro ?_ ?_ <;> (conv => whnf)
  rotate_left
  ·exact trivial
  refine ⟨⟨_, Tryz.func45, rfl, by kernel_rfl⟩, CallS.use (quoteS txn (by omega) _) [] rfl rfl trivial ?_⟩
  rintro e Hx5 G' hlex5 ⟨⟨q5, rfl, hq5, hs5⟩, rfl, rfl⟩
  (conv => whnf)
  refine ⟨⟨rfl, rfl, trivial⟩, ?_⟩
  (conv => whnf)
  refine ⟨add_ok (add_le (add_le (add_le (add_le (add_le (add_le (add_le (add_le (n := 100) (by decide) hs1) (m := 100) (by decide)) hs2) (m := 100) (by decide)) hs3) (m := 100) (by decide)) hs4) (m := 100) (by decide)) hs5 (by decide), ?_⟩
  (conv => whnf)
  refine ⟨add_ok (add_le (add_le (add_le (add_le (add_le (add_le (add_le (add_le (add_le (n := 100) (by decide) hs1) (m := 100) (by decide)) hs2) (m := 100) (by decide)) hs3) (m := 100) (by decide)) hs4) (m := 100) (by decide)) hs5) (m := 100) (by decide) (by decide), ?_⟩
  (conv => whnf)
  refine And.intro ?_ ?_ <;> (conv => whnf)
  rotate_left
  ·exact trivial
  refine ⟨⟨_, Tryz.func47, rfl, by kernel_rfl⟩, CallS.use (about iss jti aud iat txn ⟨sf, si, so⟩ kind reason hsub _) [] rfl rfl trivial ?_⟩
  rintro e Hx6 G' hlex6 ⟨⟨q6, rfl, hq6, hs6⟩, hle6, rfl⟩
  (conv => whnf)
  refine ⟨⟨rfl, rfl, trivial⟩, ?_⟩
  (conv => whnf)
  refine ⟨add_ok (add_le (add_le (add_le (add_le (add_le (add_le (add_le (add_le (add_le (add_le (n := 100) (by decide) hs1) (m := 100) (by decide)) hs2) (m := 100) (by decide)) hs3) (m := 100) (by decide)) hs4) (m := 100) (by decide)) hs5) (m := 100) (by decide)) hs6 (by decide), ?_⟩
  (conv => whnf)
  refine ⟨add_ok (add_le (add_le (add_le (add_le (add_le (add_le (add_le (add_le (add_le (add_le (add_le (n := 100) (by decide) hs1) (m := 100) (by decide)) hs2) (m := 100) (by decide)) hs3) (m := 100) (by decide)) hs4) (m := 100) (by decide)) hs5) (m := 100) (by decide)) hs6) (m := 100) (by decide) (by decide), ?_⟩
  (conv => whnf)
  refine ⟨add_ok (add_le (add_le (add_le (add_le (add_le (add_le (add_le (add_le (add_le (add_le (add_le (add_le (n := 100) (by decide) hs1) (m := 100) (by decide)) hs2) (m := 100) (by decide)) hs3) (m := 100) (by decide)) hs4) (m := 100) (by decide)) hs5) (m := 100) (by decide)) hs6) (m := 100) (by decide)) hnz (by decide), ?_⟩
  (conv => whnf)
  refine ⟨add_ok (add_le (add_le (add_le (add_le (add_le (add_le (add_le (add_le (add_le (add_le (add_le (add_le (add_le (n := 100) (by decide) hs1) (m := 100) (by decide)) hs2) (m := 100) (by decide)) hs3) (m := 100) (by decide)) hs4) (m := 100) (by decide)) hs5) (m := 100) (by decide)) hs6) (m := 100) (by decide)) hnz) (m := 100) (by decide) (by decide), ?_⟩
  (conv => whnf)
  refine ⟨add_ok (add_le (add_le (add_le (add_le (add_le (add_le (add_le (add_le (add_le (add_le (add_le (add_le (add_le (add_le (n := 100) (by decide) hs1) (m := 100) (by decide)) hs2) (m := 100) (by decide)) hs3) (m := 100) (by decide)) hs4) (m := 100) (by decide)) hs5) (m := 100) (by decide)) hs6) (m := 100) (by decide)) hnz) (m := 100) (by decide)) hr2 (by decide), ?_⟩
  (conv => whnf)
  refine ⟨add_ok (add_le (add_le (add_le (add_le (add_le (add_le (add_le (add_le (add_le (add_le (add_le (add_le (add_le (add_le (add_le (n := 100) (by decide) hs1) (m := 100) (by decide)) hs2) (m := 100) (by decide)) hs3) (m := 100) (by decide)) hs4) (m := 100) (by decide)) hs5) (m := 100) (by decide)) hs6) (m := 100) (by decide)) hnz) (m := 100) (by decide)) hr2) (m := 100) (by decide) (by decide), ?_⟩
  (conv => whnf)
  refine ⟨?_, ((((hlex1.trans hlex2).trans hlex3).trans hlex4).trans hlex5).trans hlex6, rfl⟩
  refine congrArg (fun s : ByteArray => SE.ret (pv (.string s))) ?_
  apply ByteArray.ext
  refine Array.toList_inj.1 ?_
  rw [hcw, hnq, ← hr1, ← hq1, ← hq2, ← hq4, ← hq5, ← hq6]
  simp only [ByteArray.data_append, Array.toList_append, List.append_assoc]
  simp
 ·(conv => whnf)
  have hr1 : (⟨#[123, 125]⟩ : ByteArray).data.toList = wrJ (objJ (evMs ⟨iss, jti, aud, iat, txn, ⟨sf, si, so⟩, kind, reason⟩)) := by
   unfold evMs
   rw [if_pos hrs]
   rfl
  have hr2 : (⟨#[123, 125]⟩ : ByteArray).size ≤ 6201 := by decide
  generalize (⟨#[123, 125]⟩ : ByteArray) = rs at hr1 hr2 ⊢
  refine WS.draw Tx.tab Rf.mixed (.take 0 (.take 1 (.take 5 (.take 6 (.take 10 (.take 11 (.take 15 (.take 16 (.take 20 (.take 21 (.take 25 (.take 29 (.take 30 (.take 31 (.take 32 (.take 33 (.take 36 (.alt 2 (.take 3 (.take 4 (.alt 7 (.take 8 (.take 9 (.alt 12 (.take 13 (.take 14 (.alt 17 (.take 18 (.take 19 (.alt 22 (.take 23 (.take 24 (.alt 26 (.take 27 (.take 28 (.take 34 (.take 35 (.take 37 (.take 38 (.take 39 .done))))))) .no))) .no))) .no))) .no))) .no))) .no)))))))))))))))))) (by kernel_rfl) [] ?_
  (conv => whnf)
  rw [wrap64 (x := kind - 1) (by omega) (by omega)]
  refine ⟨⟨by omega, by omega⟩, ?_⟩
  (conv => whnf)
  refine getC_of hnm ?_
  (conv => whnf)
  refine And.intro ?_ ?_ <;> (conv => whnf)
  rotate_left
  ·exact trivial
  refine ⟨⟨_, Tryz.func45, rfl, by kernel_rfl⟩, CallS.use (quoteS iss (by omega) _) [] rfl rfl trivial ?_⟩
  rintro e Hx1 G' hlex1 ⟨⟨q1, rfl, hq1, hs1⟩, rfl, rfl⟩
  (conv => whnf)
  refine ⟨⟨rfl, rfl, trivial⟩, ?_⟩
  (conv => whnf)
  refine ⟨add_ok (n := 100) (by decide) hs1 (by decide), ?_⟩
  (conv => whnf)
  refine ⟨add_ok (add_le (n := 100) (by decide) hs1) (m := 100) (by decide) (by decide), ?_⟩
  (conv => whnf)
  refine And.intro ?_ ?_ <;> (conv => whnf)
  rotate_left
  ·exact trivial
  refine ⟨⟨_, Tryz.func45, rfl, by kernel_rfl⟩, CallS.use (quoteS jti (by omega) _) [] rfl rfl trivial ?_⟩
  rintro e Hx2 G' hlex2 ⟨⟨q2, rfl, hq2, hs2⟩, rfl, rfl⟩
  (conv => whnf)
  refine ⟨⟨rfl, rfl, trivial⟩, ?_⟩
  (conv => whnf)
  refine ⟨add_ok (add_le (add_le (n := 100) (by decide) hs1) (m := 100) (by decide)) hs2 (by decide), ?_⟩
  (conv => whnf)
  refine ⟨add_ok (add_le (add_le (add_le (n := 100) (by decide) hs1) (m := 100) (by decide)) hs2) (m := 100) (by decide) (by decide), ?_⟩
  (conv => whnf)
  refine And.intro ?_ ?_ <;> (conv => whnf)
  rotate_left
  ·exact trivial
  refine ⟨⟨_, Tryz.func46, rfl, by kernel_rfl⟩, CallS.use (digits13 iat hiat.1 hiat.2 _) [] rfl rfl trivial ?_⟩
  rintro e Hx3 G' hlex3 ⟨rfl, rfl⟩
  (conv => whnf)
  refine ⟨⟨rfl, rfl, trivial⟩, ?_⟩
  (conv => whnf)
  refine ⟨add_ok (add_le (add_le (add_le (add_le (n := 100) (by decide) hs1) (m := 100) (by decide)) hs2) (m := 100) (by decide)) hs3 (by decide), ?_⟩
  (conv => whnf)
  refine ⟨add_ok (add_le (add_le (add_le (add_le (add_le (n := 100) (by decide) hs1) (m := 100) (by decide)) hs2) (m := 100) (by decide)) hs3) (m := 100) (by decide) (by decide), ?_⟩
  (conv => whnf)
  refine And.intro ?_ ?_ <;> (conv => whnf)
  rotate_left
  ·exact trivial
  refine ⟨⟨_, Tryz.func45, rfl, by kernel_rfl⟩, CallS.use (quoteS aud (by omega) _) [] rfl rfl trivial ?_⟩
  rintro e Hx4 G' hlex4 ⟨⟨q4, rfl, hq4, hs4⟩, rfl, rfl⟩
  (conv => whnf)
  refine ⟨⟨rfl, rfl, trivial⟩, ?_⟩
  (conv => whnf)
  refine ⟨add_ok (add_le (add_le (add_le (add_le (add_le (add_le (n := 100) (by decide) hs1) (m := 100) (by decide)) hs2) (m := 100) (by decide)) hs3) (m := 100) (by decide)) hs4 (by decide), ?_⟩
  (conv => whnf)
  refine ⟨add_ok (add_le (add_le (add_le (add_le (add_le (add_le (add_le (n := 100) (by decide) hs1) (m := 100) (by decide)) hs2) (m := 100) (by decide)) hs3) (m := 100) (by decide)) hs4) (m := 100) (by decide) (by decide), ?_⟩
  (conv => whnf)
  refine And.intro ?_ ?_ <;> (conv => whnf)
  rotate_left
  ·exact trivial
  refine ⟨⟨_, Tryz.func45, rfl, by kernel_rfl⟩, CallS.use (quoteS txn (by omega) _) [] rfl rfl trivial ?_⟩
  rintro e Hx5 G' hlex5 ⟨⟨q5, rfl, hq5, hs5⟩, rfl, rfl⟩
  (conv => whnf)
  refine ⟨⟨rfl, rfl, trivial⟩, ?_⟩
  (conv => whnf)
  refine ⟨add_ok (add_le (add_le (add_le (add_le (add_le (add_le (add_le (add_le (n := 100) (by decide) hs1) (m := 100) (by decide)) hs2) (m := 100) (by decide)) hs3) (m := 100) (by decide)) hs4) (m := 100) (by decide)) hs5 (by decide), ?_⟩
  (conv => whnf)
  refine ⟨add_ok (add_le (add_le (add_le (add_le (add_le (add_le (add_le (add_le (add_le (n := 100) (by decide) hs1) (m := 100) (by decide)) hs2) (m := 100) (by decide)) hs3) (m := 100) (by decide)) hs4) (m := 100) (by decide)) hs5) (m := 100) (by decide) (by decide), ?_⟩
  (conv => whnf)
  refine And.intro ?_ ?_ <;> (conv => whnf)
  rotate_left
  ·exact trivial
  refine ⟨⟨_, Tryz.func47, rfl, by kernel_rfl⟩, CallS.use (about iss jti aud iat txn ⟨sf, si, so⟩ kind reason hsub _) [] rfl rfl trivial ?_⟩
  rintro e Hx6 G' hlex6 ⟨⟨q6, rfl, hq6, hs6⟩, hle6, rfl⟩
  (conv => whnf)
  refine ⟨⟨rfl, rfl, trivial⟩, ?_⟩
  (conv => whnf)
  refine ⟨add_ok (add_le (add_le (add_le (add_le (add_le (add_le (add_le (add_le (add_le (add_le (n := 100) (by decide) hs1) (m := 100) (by decide)) hs2) (m := 100) (by decide)) hs3) (m := 100) (by decide)) hs4) (m := 100) (by decide)) hs5) (m := 100) (by decide)) hs6 (by decide), ?_⟩
  (conv => whnf)
  refine ⟨add_ok (add_le (add_le (add_le (add_le (add_le (add_le (add_le (add_le (add_le (add_le (add_le (n := 100) (by decide) hs1) (m := 100) (by decide)) hs2) (m := 100) (by decide)) hs3) (m := 100) (by decide)) hs4) (m := 100) (by decide)) hs5) (m := 100) (by decide)) hs6) (m := 100) (by decide) (by decide), ?_⟩
  (conv => whnf)
  refine ⟨add_ok (add_le (add_le (add_le (add_le (add_le (add_le (add_le (add_le (add_le (add_le (add_le (add_le (n := 100) (by decide) hs1) (m := 100) (by decide)) hs2) (m := 100) (by decide)) hs3) (m := 100) (by decide)) hs4) (m := 100) (by decide)) hs5) (m := 100) (by decide)) hs6) (m := 100) (by decide)) hnz (by decide), ?_⟩
  (conv => whnf)
  refine ⟨add_ok (add_le (add_le (add_le (add_le (add_le (add_le (add_le (add_le (add_le (add_le (add_le (add_le (add_le (n := 100) (by decide) hs1) (m := 100) (by decide)) hs2) (m := 100) (by decide)) hs3) (m := 100) (by decide)) hs4) (m := 100) (by decide)) hs5) (m := 100) (by decide)) hs6) (m := 100) (by decide)) hnz) (m := 100) (by decide) (by decide), ?_⟩
  (conv => whnf)
  refine ⟨add_ok (add_le (add_le (add_le (add_le (add_le (add_le (add_le (add_le (add_le (add_le (add_le (add_le (add_le (add_le (n := 100) (by decide) hs1) (m := 100) (by decide)) hs2) (m := 100) (by decide)) hs3) (m := 100) (by decide)) hs4) (m := 100) (by decide)) hs5) (m := 100) (by decide)) hs6) (m := 100) (by decide)) hnz) (m := 100) (by decide)) hr2 (by decide), ?_⟩
  (conv => whnf)
  refine ⟨add_ok (add_le (add_le (add_le (add_le (add_le (add_le (add_le (add_le (add_le (add_le (add_le (add_le (add_le (add_le (add_le (n := 100) (by decide) hs1) (m := 100) (by decide)) hs2) (m := 100) (by decide)) hs3) (m := 100) (by decide)) hs4) (m := 100) (by decide)) hs5) (m := 100) (by decide)) hs6) (m := 100) (by decide)) hnz) (m := 100) (by decide)) hr2) (m := 100) (by decide) (by decide), ?_⟩
  (conv => whnf)
  refine ⟨?_, ((((hlex1.trans hlex2).trans hlex3).trans hlex4).trans hlex5).trans hlex6, rfl⟩
  refine congrArg (fun s : ByteArray => SE.ret (pv (.string s))) ?_
  apply ByteArray.ext
  refine Array.toList_inj.1 ?_
  rw [hcw, hnq, ← hr1, ← hq1, ← hq2, ← hq4, ← hq5, ← hq6]
  simp only [ByteArray.data_append, Array.toList_append, List.append_assoc]
  simp
end Go.Kx.Rf
namespace Go.Kx.L13
open Go.Proofs Go.Kx Go.RowKit Go.Kx.Js Go.Kx.Pr Go.Kx.Rt Go.Kx.Ob Go.Kx.Wo Go.Kx.Cl Go.Kx.Pa Go.Kx.Su Go.Kx.Se Go.Kx.Jw
set_option maxRecDepth 20000
set_option linter.unusedSimpArgs false
theorem wf64 {n : Int} (h0 : -9223372036854775808 ≤ n) (h1 : n ≤ 9223372036854775807) : (Lit.int .i64 n).wf = true := by
 have e0 : IntKind.i64.min = -9223372036854775808 := by decide
 have e1 : IntKind.i64.max = 9223372036854775807 := by decide
 simp [Lit.wf, e0, e1, h0, h1]
theorem fit_right {c : Clm} (h : RightC c) : FitC c := by
 have hm : 256 ≤ maxLen := by decide
 have w : ∀ {s : ByteArray}, Wo.wordP 256 s = true → s.size ≤ maxLen := fun hw => Nat.le_trans (word_size hw).1 hm
 have hs : c.sub.fmt.size ≤ maxLen ∧ c.sub.id.size ≤ maxLen ∧ c.sub.own.size ≤ maxLen := by
  rcases sub_cases h.sub with ⟨id, e, h1⟩ | ⟨id, e, h1, h2⟩ | ⟨id, own, e, h1, h2⟩
  ·rw [e]; exact ⟨(by decide : sOpaque.size ≤ maxLen), w h1, Nat.zero_le _⟩
  ·rw [e]; exact ⟨(by decide : sEmail.size ≤ maxLen), w h1, Nat.zero_le _⟩
  ·rw [e]; exact ⟨(by decide : sIssSub.size ≤ maxLen), w h1, w h2⟩
 exact ⟨w h.iss, w h.jti, w h.aud, wf64 (by have := h.iat; omega) (by have := h.iat; omega), w h.txn, hs.1, hs.2.1, hs.2.2, wf64 (by have := h.kind; omega) (by have := h.kind; omega), Nat.le_trans (reason_size h) hm⟩
theorem fit0 : FitC clm0 := ⟨by decide, by decide, by decide, by decide, by decide, by decide, by decide, by decide, by decide, by decide⟩
theorem read_right {s : ByteArray} {key : List UInt8} {c : Clm} (h : readP s key = .ok c) : RightC c := by
 unfold readP at h
 split at h
 ·cases h
 split at h
 ·cases h
 split at h
 ·cases h
 split at h
 ·cases h
 split at h
 ·cases h
 ·rename_i hc
  injection h with h
  subst h
  exact (of_some hc).1
def clX : Except Int Clm → Clm
 | .ok c => c
 | .error _ => clm0
def nX : Except Int Clm → Int
 | .ok _ => 0
 | .error x => x
theorem rcl {X : Except Int Clm} {e : SE} (h : RCl X e) : e = .ret (.tu [.ag (csC (clX X)), .ce (.val (.int .i64 (nX X)))]) := by
 cases X with
 | ok c => exact h
 | error x => exact h
theorem fitX {s : ByteArray} {key : List UInt8} : FitC (clX (readP s key)) := by
 cases h : readP s key with
 | ok c => exact fit_right (read_right h)
 | error x => exact fit0
theorem eqClm {o : Oper} {x y : Operand} (ho : o.op = .binOp .eql 25 x y 25) {F : Fr} {H : Hp} {G : List SB} {K : SV → Prop} (c d : Clm)
  (hx : evX x F fun sv => sv = .si (.ag ((cellsC c).map SC.val))) (hy : evX y F fun sv => sv = .si (.ag ((cellsC d).map SC.val))) (fc : FitC c) (fd : FitC d) (h : ∀ r : Bool, (r = true ↔ c = d) → K (pv (.bool r))) : QO Tryz.prog o F H G K :=
 QO.agg ho (cellsC c) (cellsC d) ksC hx hy gC kC sC (fC _) (fC _) fc.lits fd.lits fun r hr => .inl ⟨rfl, h r (hr.trans cellsC_inj)⟩
end Go.Kx.L13
namespace Go.Kx.L13
open Go.Proofs Go.Kx Go.RowKit Go.Kx.Js Go.Kx.Pr Go.Kx.Rt Go.Kx.Ob Go.Kx.Wo Go.Kx.Cl Go.Kx.Su Go.Kx.Se Go.Kx.Jw
set_option maxRecDepth 20000
set_option linter.unusedSimpArgs false
namespace Li
def T : Tab := [(9, { k := TK.string, agg := false, size := 1, bytes := 16, zero := [Z.s] }), (3, { k := TK.int IntKind.i64, agg := false, size := 1, bytes := 8, zero := [Z.i IntKind.i64] }), (25, { k := TK.st [(0, 9, 1), (1, 9, 1), (2, 9, 1), (3, 3, 1), (4, 9, 1), (5, 23, 3), (8, 3, 1), (9, 9, 1)], agg := true, size := 10, bytes := 144, zero := [Z.s, Z.s, Z.s, Z.i IntKind.i64, Z.s, Z.s, Z.s, Z.s, Z.i IntKind.i64, Z.s] }), (28, { k := TK.st [(0, 9, 1), (1, 9, 1), (2, 9, 1), (3, 3, 1), (4, 9, 1), (5, 9, 1), (6, 9, 1), (7, 9, 1), (8, 3, 1), (9, 9, 1)], agg := true, size := 10, bytes := 144, zero := [Z.s, Z.s, Z.s, Z.i IntKind.i64, Z.s, Z.s, Z.s, Z.s, Z.i IntKind.i64, Z.s] }), (23, { k := TK.st [(0, 9, 1), (1, 9, 1), (2, 9, 1)], agg := true, size := 3, bytes := 48, zero := [Z.s, Z.s, Z.s] }), (4, { k := TK.bool, agg := false, size := 1, bytes := 1, zero := [Z.b] }), (62, { k := TK.slice 9, agg := false, size := 1, bytes := 24, zero := [Z.sl] })]
set_option maxRecDepth 100000 in
theorem tab : TabOk Tryz.prog T := tabOk_mk (ts := [9, 3, 25, 28, 23, 4, 62]) (by kernel_rfl)
end Li
def szs (c : Clm) : List ByteArray := [c.jti, c.aud, c.txn, c.sub.fmt, c.sub.id, c.sub.own, c.reason]
theorem listed0 (c : Clm) (H : Hp) : CallO Tryz.prog 9 [agC c] H [] fun e H' G' => (∃ b : Bool, e = .ret (.tu [.ag (csC c), .ce (.val (.bool b))]) ∧ (b = true → c.iss.size ≤ 300 ∧ ∀ s ∈ szs c, s.size ≤ 300)) ∧ H.Le H' ∧ G' = [] := by
 refine CallO.of_body Li.tab Tryz.func9 rfl (nt := Tryz.f9.ntmps) rfl (by kernel_rfl) ?_
 (conv => whnf)
 refine ⟨by decide, .inl ?_⟩
 intro g H2 hle hrd
 have hv : Pa.VAt H2 (some { block := g, off := 0 }) 7 ((szs c).map Value.string) := ⟨rfl, fun e => (nomatch e), fun a e => by injection e with e; subst e; exact hrd⟩
 (conv => whnf)
 refine WS.loop (fun k F H3 G => ∃ (j : Nat) (m : Int), j ≤ 7 ∧ (c.iss.size : Int) ≤ m ∧ (∀ i s, i < j → (szs c)[i]? = some s → (s.size : Int) ≤ m) ∧ k = 7 - j ∧ F = [(1, .si (.ce (.ptr 0 0))), (2, .si (.ce (.ptr 1 0))), (4, pv (.int .i64 m)), (27, pv (.slice (some { block := g, off := 0 }) 7 7)), (28, pv (.int .i64 7)), (29, pv (.int .i64 j))] ∧ H2.Le H3 ∧ G = [.box 25 (csC c), .box 28 (csC clm0)]) 8 ?_ ?_
 ·refine ⟨7, by omega, _, _, [0, 1], ⟨0, c.iss.size, by omega, Int.le_refl _, fun i s hi => absurd hi (by omega), rfl, rfl, .refl _, rfl⟩, ?_⟩
  exact ⟨rfl, ⟨rfl, rfl, trivial⟩, rfl, rfl, rfl, rfl, rfl, rfl, trivial⟩
 rintro k F H3 G hle3 ⟨j, m, hj, hm, hs, rfl, rfl, hle4, rfl⟩
 refine codeL.go Li.tab ?_
 (conv => whnf)
 refine br.of (fun h1 => ?_) (fun h1 => ?_) <;> (conv => whnf)
 ·have h1 := of_decide_eq_true h1
  obtain ⟨s, hsj⟩ : ∃ s, (szs c)[j]? = some s := ⟨_, List.getElem?_eq_getElem (by show j < 7; omega)⟩
  refine ⟨⟨by omega, by omega⟩, hv.addr (by decide), ?_⟩
  (conv => whnf)
  refine ⟨_, (hv.mono hle4).get (show ((szs c).map Value.string)[j]? = some (.string s) by rw [List.getElem?_map, hsj]; rfl) (by show (j : Int).toNat * 1 = j; omega), ?_⟩
  (conv => whnf)
  rw [wrap64 (x := (j : Int) + 1) (by omega) (by omega)]
  refine ⟨7 - (j + 1), by omega, _, _, [0, 1], ⟨j + 1, maxB m s.size, by omega, ?_, fun i u hi hu => ?_, rfl, rfl, hle4, rfl⟩, ?_⟩
  ·unfold maxB; split <;> omega
  ·rcases Nat.lt_or_ge i j with hij | hij
   ·have := hs i u hij hu
    unfold maxB; split <;> omega
   ·obtain rfl : i = j := by omega
    rw [hsj] at hu
    injection hu with hu
    subst hu
    unfold maxB; split <;> omega
  ·exact ⟨rfl, ⟨rfl, rfl, trivial⟩, rfl, rfl, rfl, rfl, rfl, rfl, trivial⟩
 ·have h1 := of_decide_eq_false h1
  obtain rfl : j = 7 := by omega
  refine ⟨⟨_, rfl, fun hb => ?_⟩, hle.trans hle4, rfl⟩
  have hb : m ≤ 300 := of_decide_eq_true hb
  refine ⟨by omega, fun s hs' => ?_⟩
  obtain ⟨i, hi, rfl⟩ := List.getElem_of_mem hs'
  have := hs i _ hi (List.getElem?_eq_getElem hi)
  omega
end Go.Kx.L13
namespace Go.Kx.L13
open Go.Proofs Go.Kx Go.RowKit Go.Kx.Js Go.Kx.Pr Go.Kx.Rt Go.Kx.Ob Go.Kx.Wo Go.Kx.Cl Go.Kx.Su Go.Kx.Se Go.Kx.Jw
set_option maxRecDepth 20000
set_option linter.unusedSimpArgs false
theorem listed_fit {c : Clm} (h : c.iss.size ≤ 300 ∧ ∀ s ∈ szs c, s.size ≤ 300) (hn : (Lit.int .i64 c.iat).wf = true) (hk : (Lit.int .i64 c.kind).wf = true) : Rf.FitT c ∧ FitC c := by
 obtain ⟨h1, h2⟩ := h
 have w : ∀ s ∈ szs c, s.size ≤ 300 := h2
 have a1 := w c.jti (by simp [szs])
 have a2 := w c.aud (by simp [szs])
 have a3 := w c.txn (by simp [szs])
 have a4 := w c.sub.fmt (by simp [szs])
 have a5 := w c.sub.id (by simp [szs])
 have a6 := w c.sub.own (by simp [szs])
 have a7 := w c.reason (by simp [szs])
 have m : 300 ≤ maxLen := by decide
 exact ⟨⟨by omega, by omega, by omega, by omega, by omega, by omega, by omega, by omega⟩, ⟨by omega, by omega, by omega, hn, by omega, by omega, by omega, by omega, hk, by omega⟩⟩
theorem kind_wf {k : Int} (h : (Lit.int .i64 k).wf = true) : -9223372036854775808 ≤ k ∧ k ≤ 9223372036854775807 := by
 have h1 : IntKind.i64.min ≤ k ∧ k ≤ IntKind.i64.max := by simpa [Lit.wf] using h
 rwa [show IntKind.i64.min = -9223372036854775808 by decide, show IntKind.i64.max = 9223372036854775807 by decide] at h1
end Go.Kx.L13
namespace Go.Kx.L13
open Go.Proofs Go.Kx Go.RowKit Go.Kx.Js Go.Kx.Pr Go.Kx.Rt Go.Kx.Ob Go.Kx.Wo Go.Kx.Cl Go.Kx.Su Go.Kx.Se Go.Kx.Jw
set_option maxRecDepth 20000
set_option linter.unusedSimpArgs false
namespace Sr
def T : Tab := [(9, { k := TK.string, agg := false, size := 1, bytes := 16, zero := [Z.s] }), (3, { k := TK.int IntKind.i64, agg := false, size := 1, bytes := 8, zero := [Z.i IntKind.i64] }), (25, { k := TK.st [(0, 9, 1), (1, 9, 1), (2, 9, 1), (3, 3, 1), (4, 9, 1), (5, 23, 3), (8, 3, 1), (9, 9, 1)], agg := true, size := 10, bytes := 144, zero := [Z.s, Z.s, Z.s, Z.i IntKind.i64, Z.s, Z.s, Z.s, Z.s, Z.i IntKind.i64, Z.s] }), (28, { k := TK.st [(0, 9, 1), (1, 9, 1), (2, 9, 1), (3, 3, 1), (4, 9, 1), (5, 9, 1), (6, 9, 1), (7, 9, 1), (8, 3, 1), (9, 9, 1)], agg := true, size := 10, bytes := 144, zero := [Z.s, Z.s, Z.s, Z.i IntKind.i64, Z.s, Z.s, Z.s, Z.s, Z.i IntKind.i64, Z.s] }), (23, { k := TK.st [(0, 9, 1), (1, 9, 1), (2, 9, 1)], agg := true, size := 3, bytes := 48, zero := [Z.s, Z.s, Z.s] }), (34, { k := TK.st [(0, 3, 1), (1, 4, 1), (2, 9, 1), (3, 31, 1), (4, 32, 1)], agg := true, size := 5, bytes := 80, zero := [Z.i IntKind.i64, Z.b, Z.s, Z.sl, Z.sl] }), (52, { k := TK.st [(0, 9, 1), (1, 34, 5)], agg := true, size := 6, bytes := 96, zero := [Z.s, Z.i IntKind.i64, Z.b, Z.s, Z.sl, Z.sl] }), (4, { k := TK.bool, agg := false, size := 1, bytes := 1, zero := [Z.b] }), (35, { k := TK.int IntKind.i64, agg := false, size := 1, bytes := 8, zero := [Z.i IntKind.i64] }), (55, { k := TK.slice 5, agg := false, size := 1, bytes := 24, zero := [Z.sl] }), (62, { k := TK.slice 9, agg := false, size := 1, bytes := 24, zero := [Z.sl] }), (31, { k := TK.slice 34, agg := false, size := 1, bytes := 24, zero := [Z.sl] }), (32, { k := TK.slice 52, agg := false, size := 1, bytes := 24, zero := [Z.sl] }), (5, { k := TK.int IntKind.u8, agg := false, size := 1, bytes := 1, zero := [Z.i IntKind.u8] })]
set_option maxRecDepth 100000 in
theorem tab : TabOk Tryz.prog T := tabOk_mk (ts := [9, 3, 25, 28, 23, 34, 52, 4, 35, 55, 62, 31, 32, 5]) (by kernel_rfl)
end Sr
theorem setRights (c : Clm) (hn : (Lit.int .i64 c.iat).wf = true) (hkw : (Lit.int .i64 c.kind).wf = true) (H : Hp) (hE : ErrH H) : CallO Tryz.prog 3 [.si (.ag (csC c))] H [] fun e _ _ => e = .ret (pv (.bool true)) := by
 have hk := kind_wf hkw
 refine CallO.of_body Sr.tab Tryz.func3 rfl (nt := Tryz.f3.ntmps) rfl (by kernel_rfl) ?_
 (conv => whnf)
 refine ⟨⟨_, Tryz.func8, rfl, by kernel_rfl⟩, CallS.use (anchor_ H hE) [] rfl rfl trivial ?_⟩
 rintro e H2 G' hle2 ⟨rfl, _, rfl⟩
 (conv => whnf)
 refine ⟨⟨_, Tryz.func9, rfl, by kernel_rfl⟩, CallS.use (listed0 c H2) [] rfl rfl trivial ?_⟩
 rintro e H3 G' hle3 ⟨⟨b, rfl, hfit⟩, hle3', rfl⟩
 cases b
 ·(conv => whnf)
  rfl
 obtain ⟨hft, hfc⟩ := listed_fit (hfit rfl) hn hkw
 (conv => whnf)
 refine ⟨⟨_, Tryz.func10, rfl, by kernel_rfl⟩, CallS.use (value0 c.iss c.jti c.aud c.iat c.txn c.sub.fmt c.sub.id c.sub.own c.kind c.reason hk H3) [] rfl rfl trivial ?_⟩
 rintro e H4 G' hle4 ⟨⟨k2, y2, t2, A2, n2, c2, B2, m2, d2, rfl, hj⟩, hle4', rfl⟩
 rw [show valP ⟨c.iss, c.jti, c.aud, c.iat, c.txn, ⟨c.sub.fmt, c.sub.id, c.sub.own⟩, c.kind, c.reason⟩ = if clRight c then (clJ c, 0) else (jNone, 10) from rfl] at hj ⊢
 have hri := right_iff c
 have hright := Rf.right13 c.iss c.jti c.aud c.iat c.txn c.sub.fmt c.sub.id c.sub.own c.kind c.reason hft
 have hright0 := right0 c.iss c.jti c.aud c.iat c.txn c.sub.fmt c.sub.id c.sub.own c.kind c.reason hk
 rw [show clRight ⟨c.iss, c.jti, c.aud, c.iat, c.txn, ⟨c.sub.fmt, c.sub.id, c.sub.own⟩, c.kind, c.reason⟩ = clRight c from rfl] at hright hright0
 cases hr : clRight c
 ·rw [hr] at hj hright hright0
  rw [if_neg (by decide)] at hj ⊢
  (conv => whnf)
  refine WS.draw Sr.tab L13.mixed (.take 0 (.take 2 (.alt 1 (.alt 3 (.take 4 (.take 5 (.take 6 (.take 8 (.take 9 (.alt 7 (.take 10 (.take 11 .done)) .no)))))) .no) .no))) (by kernel_rfl) [] ?_
  (conv => whnf)
  refine And.intro ?_ ?_ <;> (conv => whnf)
  rotate_left
  ·exact trivial
  refine ⟨⟨_, Tryz.func11, rfl, by kernel_rfl⟩, CallS.use (hright0 H4) [] rfl rfl trivial ?_⟩
  rintro e H5 G' hleH5 ⟨rfl, hleH5', rfl⟩
  (conv => whnf)
  refine ⟨⟨rfl, rfl, rfl, trivial⟩, ?_⟩
  (conv => whnf)
  refine And.intro ?_ ?_ <;> (conv => whnf)
  rotate_left
  ·exact trivial
  refine ⟨⟨_, Tryz.func12, rfl, by kernel_rfl⟩, CallS.use (hright H5) [] rfl rfl trivial ?_⟩
  rintro e H6 G' hleH6 ⟨rfl, hleH6', rfl⟩
  (conv => whnf)
  refine ⟨⟨rfl, rfl, rfl, trivial⟩, ?_⟩
  (conv => whnf)
  refine And.intro ?_ ?_ <;> (conv => whnf)
  rotate_left
  ·exact trivial
  refine ⟨⟨_, Tryz.func12, rfl, by kernel_rfl⟩, CallS.use (hright H6) [] rfl rfl trivial ?_⟩
  rintro e H7 G' hleH7 ⟨rfl, hleH7', rfl⟩
  (conv => whnf)
  refine ⟨⟨rfl, rfl, rfl, trivial⟩, ?_⟩
  (conv => whnf)
  obtain rfl : k2 = 0 := by cases hj; rfl
  rfl
 ·rw [hr] at hj hright hright0
  rw [if_pos rfl] at hj ⊢
  (conv => whnf)
  refine WS.draw Sr.tab L13.mixed (.take 0 (.take 2 (.alt 1 (.alt 3 (.take 4 (.take 5 (.take 6 (.take 8 (.take 9 (.alt 7 (.take 10 (.take 11 .done)) .no)))))) .no) .no))) (by kernel_rfl) [] ?_
  (conv => whnf)
  refine And.intro ?_ ?_ <;> (conv => whnf)
  rotate_left
  ·exact trivial
  refine ⟨⟨_, Tryz.func11, rfl, by kernel_rfl⟩, CallS.use (hright0 H4) [] rfl rfl trivial ?_⟩
  rintro e H5 G' hleH5 ⟨rfl, hleH5', rfl⟩
  (conv => whnf)
  refine ⟨⟨rfl, rfl, rfl, trivial⟩, ?_⟩
  (conv => whnf)
  refine And.intro ?_ ?_ <;> (conv => whnf)
  rotate_left
  ·exact trivial
  refine ⟨⟨_, Tryz.func12, rfl, by kernel_rfl⟩, CallS.use (hright H5) [] rfl rfl trivial ?_⟩
  rintro e H6 G' hleH6 ⟨rfl, hleH6', rfl⟩
  (conv => whnf)
  refine ⟨⟨rfl, rfl, rfl, trivial⟩, ?_⟩
  (conv => whnf)
  refine And.intro ?_ ?_ <;> (conv => whnf)
  rotate_left
  ·exact trivial
  refine ⟨⟨_, Tryz.func12, rfl, by kernel_rfl⟩, CallS.use (hright H6) [] rfl rfl trivial ?_⟩
  rintro e H7 G' hleH7 ⟨rfl, hleH7', rfl⟩
  (conv => whnf)
  refine ⟨⟨rfl, rfl, rfl, trivial⟩, ?_⟩
  (conv => whnf)
  have hR := hri.1 hr
  have hle47 := (hleH5.trans hleH6).trans hleH7
  have hp := print_ (clJ c) (cl_sm hR) (cl_wr6 hR) k2 y2 t2 A2 n2 c2 B2 m2 d2 H7 (hj.mono hle47)
  rw [print_cl hR] at hp
  refine ⟨⟨_, Tryz.func13, rfl, by kernel_rfl⟩, CallS.use hp [] rfl rfl trivial ?_⟩
  rintro e H8 G' hle8 ⟨rfl, hle8', rfl⟩
  (conv => whnf)
  have ho := of_ (clJ c) (cl_sm hR) (cl_wr6 hR) k2 y2 t2 A2 n2 c2 B2 m2 d2 H8 (hE.mono ((((hle2.trans hle3).trans hle4).trans hle47).trans hle8)) (hj.mono (hle47.trans hle8))
  rw [of_cl hR] at ho
  refine ⟨⟨_, Tryz.func14, rfl, by kernel_rfl⟩, CallS.use ho [] rfl rfl trivial ?_⟩
  rintro e H9 G' hle9 ⟨rfl, hle9', rfl⟩
  (conv => whnf)
  refine ⟨⟨_, Tryz.func15, rfl, by kernel_rfl⟩, CallS.use (Rf.text_ c hR H9) [] rfl rfl trivial ?_⟩
  rintro e H10 G' hle10 ⟨rfl, hle10', rfl⟩
  (conv => whnf)
  rw [str_refl]
  (conv => whnf)
  change QO _ _ _ _ _ _
  refine eqClm (x := .tmp 69) (y := .tmp 70) ?_ c c ?_ ?_ hfc hfc ?_
  ·rfl
  ·rfl
  ·rfl
  intro r hr
  obtain rfl : r = true := hr.2 rfl
  (conv => whnf)
  rfl
end Go.Kx.L13
