/- Events as claims: a value's claims. No condition of its own. -/
import Derived.Test.YtdknmcaemebgfaaGreatDoorMY15
import Derived.DeepKeys
import Derived.Laws.StructEq
import Derived.Lib.SlBytesConst
namespace Go.Kx.Se
open Go.Proofs Go.Kx Go.RowKit Go.Kx.Js Go.Kx.Pr Go.Kx.Rt Go.Kx.Ob Go.Kx.Wo Go.Kx.Cl Go.Kx.Pa Go.Kx.Su
set_option maxRecDepth 20000
set_option linter.unusedSimpArgs false
theorem getP_mem : ∀ {ms : List (ByteArray × J)} {s : ByteArray} {q : J}, getP ms s = some q → ∃ i : Nat, ms[i]? = some (s, q)
 | [], s, q, h => by cases h
 | (t, j) :: r, s, q, h => by
  unfold getP at h
  split at h
  ·rename_i hts
   injection h with h
   exact ⟨0, by rw [← hts, ← h]; rfl⟩
  ·obtain ⟨i, hi⟩ := getP_mem h
   exact ⟨i + 1, by simpa using hi⟩
theorem sm_mem {j : J} (h : smJ j) (s : ByteArray) : smJ (memJ j s) := by
 obtain ⟨k, y, t, js, ms⟩ := j
 have h0 : smJ jNone := ⟨Nat.zero_le _, Nat.zero_le _, Nat.zero_le _, trivial, trivial⟩
 have hm : memJ (.mk k y t js ms) s = if k = 6 then (getP ms s).getD jNone else jNone := by
  show (if k = 6 then getP ms s else none).getD jNone = _
  split <;> rfl
 rw [hm]
 split
 ·cases hg : getP ms s with
  | none => exact h0
  | some q =>
   obtain ⟨i, hi⟩ := getP_mem hg
   exact (smMs_get h.2.2.2.2 hi).2
 ·exact h0
theorem sm_text {j : J} (h : smJ j) : j.text.size ≤ 190000 := by
 obtain ⟨k, y, t, js, ms⟩ := j
 exact h.1
theorem getM_ (j : J) (hl : j.mems.length ≤ 1000000) (s : ByteArray) (k : Int) (y : Bool) (t : ByteArray) (A : Option Addr) (n c : Nat) (B : Option Addr) (m d : Nat) (H : Hp) (hj : JAt H j [.int .i64 k, .bool y, .string t, .slice A n c, .slice B m d]) :
  CallO Tryz.prog 41 [agJ k y t A n c B m d, pv (.string s)] H [] fun e H' G' => H' = H ∧ (∃ k y t A n c B m d b, e = .ret (.tu [.ag [.val (.int .i64 k), .val (.bool y), .val (.string t), .val (.slice A n c), .val (.slice B m d)], .ce (.val (.bool b))]) ∧ JAt H' (memJ j s) [.int .i64 k, .bool y, .string t, .slice A n c, .slice B m d]) ∧ G' = [] := by
 refine (get_ j k y t A n c B m d s H hj hl).mono ?_
 rintro e H' G' hle ⟨rfl, hg, rfl⟩
 refine ⟨rfl, ?_, rfl⟩
 unfold memJ
 cases hgj : j.get s with
 | none =>
  rw [hgj] at hg
  exact ⟨_, _, _, _, _, _, _, _, _, _, hg, .bare 0 false ⟨#[]⟩⟩
 | some q =>
  rw [hgj] at hg
  obtain ⟨k2, y2, t2, A2, n2, c2, B2, m2, d2, rfl, hj2⟩ := hg
  exact ⟨_, _, _, _, _, _, _, _, _, _, rfl, hj2⟩
abbrev csC (c : Clm) : List SC := cs10 c.iss c.jti c.aud c.iat c.txn c.sub.fmt c.sub.id c.sub.own c.kind c.reason
def RO (x : Option Clm) (e : SE) : Prop := match x with
 | some c => e = .ret (.tu [.ag (csC c), .ce (.val (.int .i64 0))])
 | none => e = .ret (.tu [.ag (csC clm0), .ce (.val (.int .i64 10))])
theorem kindN_le (s : ByteArray) : 0 ≤ kindN s ∧ kindN s ≤ 6 := by
 unfold kindN
 repeat' split
 all_goals omega
theorem event_le (j : J) : 0 ≤ (event j).1 ∧ (event j).1 ≤ 6 := by
 unfold event
 split
 ·split
  ·exact kindN_le _
  ·exact ⟨Int.le_refl _, by decide⟩
 ·exact ⟨Int.le_refl _, by decide⟩
theorem of_ (j : J) (hs : smJ j) (hw : 6 * (wrJ j).length ≤ 8000000) (k : Int) (y : Bool) (t : ByteArray) (A : Option Addr) (n c : Nat) (B : Option Addr) (m d : Nat) (H : Hp) (hE : ErrH H) (hj : JAt H j [.int .i64 k, .bool y, .string t, .slice A n c, .slice B m d]) :
  CallO Tryz.prog 14 [agJ k y t A n c B m d] H [] fun e H' G' => RO (ofP j) e ∧ H.Le H' ∧ G' = [] := by
 have hl := sm_len hs
 have hC : ofC j = ⟨said j sIss, said j sJti, said j sAud, (intP (memJ j sIat)).1, said j sTxn, (subOf (memJ j sSubId)).1, (event (memJ j sEvents)).1, (event (memJ j sEvents)).2⟩ := rfl
 have hkl := event_le (memJ j sEvents)
 refine CallO.of_body tab Tryz.func14 rfl (nt := Tryz.f14.ntmps) rfl (by kernel_rfl) ?_
 (conv => whnf)
 refine WS.draw tab mixed (.take 0 (.take 2 (.take 4 (.take 6 (.alt 1 (.alt 3 (.alt 5 (.alt 7 (.take 8 (.alt 9 (.alt 10 .done .no) .no)) (.alt 9 (.alt 7 (.take 8 (.alt 10 .done .no)) .no) .no)) (.alt 9 (.alt 5 (.alt 7 (.take 8 (.alt 10 .done .no)) .no) .no) .no)) (.alt 9 (.alt 3 (.alt 5 (.alt 7 (.take 8 (.alt 10 .done .no)) .no) .no) .no) .no)) (.alt 9 (.alt 1 (.alt 3 (.alt 5 (.alt 7 (.take 8 (.alt 10 .done .no)) .no) .no) .no) .no) .no)))))) (by kernel_rfl) [] ?_
 (conv => whnf)
 repeat' (first
  | exact trivial
  | exact rfl
  | exact ⟨rfl, rfl, trivial⟩
  | exact ⟨_, Tryz.func40, rfl, by kernel_rfl⟩
  | (refine CallS.use (said_ j hl _ k y t A n c B m d _ hj) [] rfl rfl trivial ?_; rintro e H6 G' hle7 ⟨rfl, rfl, rfl⟩; (conv => whnf))
  | exact ⟨_, Tryz.func41, rfl, by kernel_rfl⟩
  | (refine And.intro ?_ ?_ <;> (conv => whnf)))
 all_goals
  refine CallS.use (getM_ j hl sIat k y t A n c B m d _ hj) [] rfl rfl trivial ?_
  rintro e H7 G' hle8 ⟨rfl, ⟨k2, y2, t2, A2, n2, c2, B2, m2, d2, b2, rfl, hj2⟩, rfl⟩
  (conv => whnf)
  refine ⟨⟨_, Tryz.func42, rfl, by kernel_rfl⟩, CallS.use (int_ _ (sm_text (sm_mem hs sIat)) k2 y2 t2 A2 n2 c2 B2 m2 d2 _ hE hj2) [] rfl rfl trivial ?_⟩
  rintro e H8 G' hle9 ⟨rfl, hle9', rfl⟩
  (conv => whnf)
  refine ⟨⟨_, Tryz.func41, rfl, by kernel_rfl⟩, CallS.use (getM_ j hl sSubId k y t A n c B m d _ (hj.mono hle9)) [] rfl rfl trivial ?_⟩
  rintro e H10 G' hle10 ⟨rfl, ⟨k3, y3, t3, A3, n3, c3, B3, m3, d3, b3, rfl, hj3⟩, rfl⟩
  (conv => whnf)
  refine ⟨⟨_, Tryz.func43, rfl, by kernel_rfl⟩, CallS.use (Su.of_ _ (sm_mem hs sSubId) k3 y3 t3 A3 n3 c3 B3 m3 d3 _ hj3) [] rfl rfl trivial ?_⟩
  rintro e H11 G' hle11 ⟨rfl, hle11', rfl⟩
  (conv => whnf)
  have hleA := hle9.trans hle11
  refine ⟨⟨_, Tryz.func41, rfl, by kernel_rfl⟩, CallS.use (getM_ j hl sEvents k y t A n c B m d _ (hj.mono hleA)) [] rfl rfl trivial ?_⟩
  rintro e H12 G' hle12 ⟨rfl, ⟨k4, y4, t4, A4, n4, c4, B4, m4, d4, b4, rfl, hj4⟩, rfl⟩
  (conv => whnf)
  refine ⟨⟨_, Tryz.func44, rfl, by kernel_rfl⟩, CallS.use (event_ _ (sm_mem hs sEvents) k4 y4 t4 A4 n4 c4 B4 m4 d4 _ hj4) [] rfl rfl trivial ?_⟩
  rintro e H13 G' hle13 ⟨rfl, hle13', rfl⟩
  (conv => whnf)
  have hleB := hleA.trans hle13
  refine ⟨⟨_, Tryz.func10, rfl, by kernel_rfl⟩, CallS.use (value_ (ofC j) ⟨by rw [hC]; dsimp only; omega, by rw [hC]; dsimp only; omega⟩ _) [] rfl rfl trivial ?_⟩
  rintro e H14 G' hle14 ⟨⟨k5, y5, t5, A5, n5, c5, B5, m5, d5, rfl, hj5⟩, hle14', rfl⟩
  have hleC := hleB.trans hle14
  unfold ofP
  unfold valP at hj5 ⊢
  cases hr : clRight (ofC j)
  all_goals
   rw [hr] at hj5
   (conv => whnf)
  ·exact ⟨rfl, hleC, rfl⟩
  have hR := (right_iff (ofC j)).1 hr
  refine ⟨⟨_, Tryz.func17, rfl, by kernel_rfl⟩, CallS.use (same_ (clJ (ofC j)) j (cl_sm hR) hs (cl_wr6 hR) hw k5 y5 t5 A5 n5 c5 B5 m5 d5 k y t A n c B m d _ hj5 (hj.mono hleC)) [] rfl rfl trivial ?_⟩
  rintro e H15 G' hle15 ⟨rfl, hle15', rfl⟩
  cases sameP (clJ (ofC j)) j
  all_goals
   (conv => whnf)
   exact ⟨rfl, hleC.trans hle15, rfl⟩
end Go.Kx.Se
namespace Go.Kx.Jw
open Go.Proofs Go.Kx Go.RowKit Go.Kx.Js Go.Kx.Pr Go.Kx.Rt Go.Kx.Ob Go.Kx.Wo Go.Kx.Cl Go.Kx.Pa Go.Kx.En Go.Kx.Sha Go.Kx.Ro
set_option maxRecDepth 20000
set_option linter.unusedSimpArgs false
def T : Tab := [(91, { k := TK.st [(0, 9, 1), (1, 9, 1)], agg := true, size := 2, bytes := 32, zero := [Z.s, Z.s] }), (95, { k := TK.st [(0, 91, 2), (2, 55, 1), (3, 9, 1), (4, 55, 1)], agg := true, size := 5, bytes := 96, zero := [Z.s, Z.s, Z.sl, Z.s, Z.sl] }), (34, { k := TK.st [(0, 3, 1), (1, 4, 1), (2, 9, 1), (3, 31, 1), (4, 32, 1)], agg := true, size := 5, bytes := 80, zero := [Z.i IntKind.i64, Z.b, Z.s, Z.sl, Z.sl] }), (52, { k := TK.st [(0, 9, 1), (1, 34, 5)], agg := true, size := 6, bytes := 96, zero := [Z.s, Z.i IntKind.i64, Z.b, Z.s, Z.sl, Z.sl] }), (9, { k := TK.string, agg := false, size := 1, bytes := 16, zero := [Z.s] }), (5, { k := TK.int IntKind.u8, agg := false, size := 1, bytes := 1, zero := [Z.i IntKind.u8] }), (55, { k := TK.slice 5, agg := false, size := 1, bytes := 24, zero := [Z.sl] }), (196, { k := TK.st [(0, 35, 1)], agg := true, size := 1, bytes := 8, zero := [Z.i IntKind.i64] }), (35, { k := TK.int IntKind.i64, agg := false, size := 1, bytes := 8, zero := [Z.i IntKind.i64] }), (4, { k := TK.bool, agg := false, size := 1, bytes := 1, zero := [Z.b] }), (3, { k := TK.int IntKind.i64, agg := false, size := 1, bytes := 8, zero := [Z.i IntKind.i64] }), (155, { k := TK.slice 55, agg := false, size := 1, bytes := 24, zero := [Z.sl] }), (32, { k := TK.slice 52, agg := false, size := 1, bytes := 24, zero := [Z.sl] }), (167, { k := TK.func, agg := false, size := 1, bytes := 8, zero := [Z.fn] }), (1, { k := TK.func, agg := false, size := 1, bytes := 8, zero := [Z.fn] }), (62, { k := TK.slice 9, agg := false, size := 1, bytes := 24, zero := [Z.sl] }), (20, { k := TK.ifc, agg := false, size := 1, bytes := 16, zero := [Z.ifc] }), (31, { k := TK.slice 34, agg := false, size := 1, bytes := 24, zero := [Z.sl] })]
set_option maxRecDepth 100000 in
theorem tab : TabOk Tryz.prog T := tabOk_mk (ts := [91, 95, 34, 52, 9, 5, 55, 196, 35, 4, 3, 155, 32, 167, 1, 62, 20, 31]) (by kernel_rfl)
theorem mixed : Tryz.prog.follows .mixedOrders = true := by kernel_rfl
theorem right_ (kid typ : ByteArray) (H : Hp) : CallO Tryz.prog 82 [.si (.ag [.val (.string kid), .val (.string typ)])] H [] fun e H' G' => e = .ret (pv (.bool (Wo.wordP 40 kid && Wo.wordP 40 typ))) ∧ H.Le H' ∧ G' = [] := by
 refine CallO.of_body tab Tryz.func82 rfl (nt := Tryz.f82.ntmps) rfl (by kernel_rfl) ?_
 (conv => whnf)
 refine ⟨⟨_, Tryz.func113, rfl, by kernel_rfl⟩, CallS.use (jwsWord kid H) [] rfl rfl trivial ?_⟩
 rintro e H1 G' hle1 ⟨rfl, rfl⟩
 cases Wo.wordP 40 kid
 all_goals (conv => whnf)
 ·exact ⟨rfl, hle1, rfl⟩
 refine ⟨⟨_, Tryz.func113, rfl, by kernel_rfl⟩, CallS.use (jwsWord typ H1) [] rfl rfl trivial ?_⟩
 rintro e H2 G' hle2 ⟨rfl, rfl⟩
 (conv => whnf)
 exact ⟨rfl, hle1.trans hle2, rfl⟩
theorem head_sz (kid typ : ByteArray) (h1 : kid.size ≤ 40) (h2 : typ.size ≤ 40) : szJ (headJ kid typ) ≤ 200 := by
 have e1 : sAlg.size = 3 := rfl
 have e2 : sKid.size = 3 := rfl
 have e3 : sTyp.size = 3 := rfl
 have e4 : sHs.size = 5 := rfl
 unfold headJ
 rw [obj_sz]
 simp only [szMs, str_sz, e1, e2, e3, e4]
 omega
theorem head_right {kid typ : ByteArray} (h1 : Wo.wordP 40 kid = true) (h2 : Wo.wordP 40 typ = true) : rightJ (headJ kid typ) = true :=
 right3 (by decide) (by decide) (by decide) (told_lit (by decide)) (told_lit (by decide)) (told_lit (by decide)) (told_lit (s := sHs) (by decide)) (word_refl h1) (word_refl h2)
theorem header_ (kid typ : ByteArray) (h1 : Wo.wordP 40 kid = true) (h2 : Wo.wordP 40 typ = true) (H : Hp) : CallO Tryz.prog 84 [.si (.ag [.val (.string kid), .val (.string typ)])] H [] fun e H' G' => e = .ret (pv (.string ⟨(wrJ (headJ kid typ)).toArray⟩)) ∧ H.Le H' ∧ G' = [] := by
 have hsz := head_sz kid typ (word_size h1).1 (word_size h2).1
 have hwr := wr_of (headJ kid typ)
 have hp : printP (headJ kid typ) = (⟨(wrJ (headJ kid typ)).toArray⟩, 0) := by unfold printP; rw [if_pos (head_right h1 h2)]
 have hpr := fun k y t A n c B m d H => print_ (headJ kid typ) (sm_of _ (by omega)) (by omega) k y t A n c B m d H
 rw [hp] at hpr
 refine CallO.of_body tab Tryz.func84 rfl (nt := Tryz.f84.ntmps) rfl (by kernel_rfl) ?_
 (conv => whnf)
 refine WS.draw tab mixed (.take 2 (.take 3 (.take 6 (.take 7 (.alt 0 (.take 1 (.alt 4 (.take 5 (.alt 8 (.take 9 (.alt 10 (.alt 11 (.alt 12 (.take 13 (.take 14 (.take 15 (.take 16 (.take 17 .done))))) .no) .no) .no)) .no)) .no)) .no))))) (by kernel_rfl) [] ?_
 (conv => whnf)
 repeat' (first
  | exact trivial
  | exact rfl
  | exact ⟨rfl, trivial⟩
  | exact ⟨_, Tryz.func31, rfl, by kernel_rfl⟩
  | exact ⟨_, Tryz.func18, rfl, by kernel_rfl⟩
  | exact ⟨_, Tryz.func13, rfl, by kernel_rfl⟩
  | (refine CallS.use (Ob.str_ _ _) [] rfl rfl trivial ?_; rintro e H6 G' hle7 ⟨rfl, rfl, rfl⟩; (conv => whnf))
  | exact Nat.le_of_ble_eq_true rfl
  | (refine .inl ?_; intro g H7 hle8 hrd; (conv => whnf))
  | (refine CallS.use (obj_ [(sAlg, strJ sHs), (sKid, strJ kid), (sTyp, strJ typ)] (Nat.le_of_ble_eq_true rfl) (some ⟨g, 0, none⟩) 3 _ H7 (.cons (.bare 4 false sHs) (.cons (.bare 4 false kid) (.cons (.bare 4 false typ) .nil))) ⟨fun e => (nomatch e), fun a e => by injection e with e; subst e; exact hrd⟩ (Nat.zero_lt_succ _)) [] rfl rfl trivial ?_; rintro e H8 G' hle9 ⟨⟨B8, d8, rfl, hj8⟩, rfl⟩; (conv => whnf))
  | (refine CallS.use (hpr _ _ _ _ _ _ _ _ _ _ hj8) [] rfl rfl trivial ?_; rintro e H9 G' hle10 ⟨rfl, hle11, rfl⟩; (conv => whnf))
  | exact ⟨rfl, (hle8.trans hle9).trans hle10, rfl⟩
  | (refine And.intro ?_ ?_ <;> (conv => whnf)))
theorem bs_app (a b : List UInt8) : (⟨a.toArray⟩ : ByteArray) ++ ⟨b.toArray⟩ = ⟨(a ++ b).toArray⟩ := by
 have : ((⟨a.toArray⟩ : ByteArray) ++ ⟨b.toArray⟩).data = (a ++ b).toArray := by rw [ByteArray.data_append]; simp
 cases h : (⟨a.toArray⟩ : ByteArray) ++ ⟨b.toArray⟩
 rw [h] at this
 simpa using this
theorem bs_size (a : List UInt8) : (⟨a.toArray⟩ : ByteArray).size = a.length := List.size_toArray
theorem bs_cells (a : List UInt8) : byteCells ⟨a.toArray⟩ = bCells a := (cells_str a).symm
theorem signZ_ (kid typ : ByteArray) (pl key : List UInt8) (A : Option Addr) (c : Nat) (B : Option Addr) (d : Nat) (hn : pl.length ≤ 1000000) (hm : key.length ≤ 1000000) (H : Hp) (hb : BytesZ H A pl.length pl) (hk : BytesZ H B key.length key) :
  CallO Tryz.prog 50 [.si (.ag [.val (.string kid), .val (.string typ)]), pv (.slice A pl.length c), pv (.slice B key.length d)] H [] fun e H' G' => e = .ret (.tu [.ce (.val (.string (signP kid typ pl key).1)), .ce (.val (.int .i64 (signP kid typ pl key).2))]) ∧ H.Le H' ∧ G' = [] := by
 unfold signP
 refine CallO.of_body tab Tryz.func50 rfl (nt := Tryz.f50.ntmps) rfl (by kernel_rfl) ?_
 (conv => whnf)
 refine ⟨⟨_, Tryz.func82, rfl, by kernel_rfl⟩, CallS.use (right_ kid typ H) [] rfl rfl trivial ?_⟩
 rintro e H1 G' hle1 ⟨rfl, hle1', rfl⟩
 cases hw : (Wo.wordP 40 kid && Wo.wordP 40 typ)
 all_goals (conv => whnf)
 ·exact ⟨rfl, hle1, rfl⟩
 rw [if_neg (by decide)]
 simp only [Bool.and_eq_true] at hw
 refine br.of (fun h1 => ?_) (fun h1 => ?_) <;> (conv => whnf)
 ·have h1 := of_decide_eq_true h1
  rw [if_pos (by omega)]
  exact ⟨rfl, hle1, rfl⟩
 have h1 := of_decide_eq_false h1
 rw [if_neg (by omega)]
 refine br.of (fun h2 => ?_) (fun h2 => ?_) <;> (conv => whnf)
 ·have h2 := of_decide_eq_true h2
  rw [if_pos (by omega)]
  exact ⟨rfl, hle1, rfl⟩
 have h2 := of_decide_eq_false h2
 rw [if_neg (by omega)]
 refine ⟨⟨_, Tryz.func84, rfl, by kernel_rfl⟩, CallS.use (header_ kid typ hw.1 hw.2 H1) [] rfl rfl trivial ?_⟩
 rintro e H2 G' hle2 ⟨rfl, hle2', rfl⟩
 (conv => whnf)
 have z1 : ∀ a b : ByteArray, (a ++ b).size = a.size + b.size := fun a b => ByteArray.size_append
 have zd : (⟨#[46]⟩ : ByteArray) = ⟨([46] : List UInt8).toArray⟩ := rfl
 have l1 := encP_len _ (wrJ (headJ kid typ)) (Nat.lt_succ_self _)
 have l2 := encP_len _ pl (Nat.lt_succ_self _)
 have l5 := head_len hw.1 hw.2
 have lsg : (signedP kid typ pl).length = (encP (wrJ (headJ kid typ))).length + ((encP pl).length + 1) := by unfold signedP; rw [List.length_append, List.length_cons]
 have l4 : (hmac key (signedP kid typ pl)).length = 32 := sha_length _
 have l3 := encP_len _ (hmac key (signedP kid typ pl)) (Nat.lt_succ_self _)
 intro g cap H3 hle3 hcap hrd
 rw [bs_cells] at hrd
 rw [bs_size]
 (conv => whnf)
 refine ⟨⟨_, Tryz.func83, rfl, by kernel_rfl⟩, CallS.use (En.enc_ (wrJ (headJ kid typ)) (some ⟨g, 0, none⟩) cap (by omega) H3 (.lit rfl hrd)) [] rfl rfl trivial ?_⟩
 rintro e H4 G' hle4 ⟨rfl, hle4', rfl⟩
 (conv => whnf)
 refine ⟨by rw [bs_size]; show _ + 1 ≤ _; omega, ?_⟩
 (conv => whnf)
 have hleA := ((hle1.trans hle2).trans hle3).trans hle4
 refine ⟨⟨_, Tryz.func83, rfl, by kernel_rfl⟩, CallS.use (En.encZ_ pl A c hn H4 (hb.mono hleA)) [] rfl rfl trivial ?_⟩
 rintro e H5 G' hle5 ⟨rfl, hle5', rfl⟩
 (conv => whnf)
 refine ⟨by rw [z1, bs_size (encP (wrJ (headJ kid typ))), bs_size (encP pl)]; show _ + 1 + _ ≤ _; omega, ?_⟩
 have hsg : (⟨(encP (wrJ (headJ kid typ))).toArray⟩ : ByteArray) ++ ⟨#[46]⟩ ++ ⟨(encP pl).toArray⟩ = ⟨(signedP kid typ pl).toArray⟩ := by
  rw [zd, bs_app, bs_app]; unfold signedP; simp
 rw [hsg]
 (conv => whnf)
 refine ⟨by rw [bs_size]; show _ + 1 ≤ _; omega, ?_⟩
 (conv => whnf)
 intro g2 cap2 H6 hle6 hcap2 hrd2
 rw [bs_cells] at hrd2
 rw [bs_size]
 (conv => whnf)
 refine ⟨by decide, .inl ?_⟩
 intro g3 H7 hle7 hrd3
 (conv => whnf)
 have hleB := ((hleA.trans hle5).trans hle6).trans hle7
 refine ⟨⟨_, Tryz.func85, rfl, by kernel_rfl⟩, CallS.use (Sha.code key [signedP kid typ pl] B (some ⟨g3, 0, none⟩) key.length d 1 1 H7 ((hk.full (by omega)).mono hleB) ⟨_, rfl, hrd3, .cons ⟨_, _, _, rfl, (BytesAt.lit rfl hrd2).mono hle7⟩ .nil⟩ hm (by decide) (by simp only [List.flatten_cons, List.flatten_nil, List.append_nil]; omega)) [] rfl rfl trivial ?_⟩
 rintro e H8 G' hle8 ⟨⟨B8, m8, c8, rfl, hb8⟩, rfl⟩
 have hm8 := hb8.1
 simp only [List.flatten_cons, List.flatten_nil, List.append_nil] at hb8 hm8
 subst hm8
 (conv => whnf)
 refine ⟨⟨_, Tryz.func83, rfl, by kernel_rfl⟩, CallS.use (En.enc_ _ B8 c8 (by omega) H8 hb8) [] rfl rfl trivial ?_⟩
 rintro e H9 G' hle9 ⟨rfl, hle9', rfl⟩
 (conv => whnf)
 refine ⟨by rw [z1, bs_size (signedP kid typ pl), bs_size (encP (hmac key (signedP kid typ pl)))]; show _ + 1 + _ ≤ _; omega, ?_⟩
 have htk : (⟨(signedP kid typ pl).toArray⟩ : ByteArray) ++ ⟨#[46]⟩ ++ ⟨(encP (hmac key (signedP kid typ pl))).toArray⟩ = ⟨(tokenP kid typ pl key).toArray⟩ := by
  rw [zd, bs_app, bs_app]; unfold tokenP; simp
 rw [htk]
 (conv => whnf)
 exact ⟨rfl, (hleB.trans hle8).trans hle9, rfl⟩
theorem sign_ (kid typ : ByteArray) (pl key : List UInt8) (A : Option Addr) (c : Nat) (B : Option Addr) (d : Nat) (hn : pl.length ≤ 1000000) (hm : key.length ≤ 1000000) (H : Hp) (hb : BytesAt H A pl.length pl) (hk : BytesAt H B key.length key) :
  CallO Tryz.prog 50 [.si (.ag [.val (.string kid), .val (.string typ)]), pv (.slice A pl.length c), pv (.slice B key.length d)] H [] fun e H' G' => e = .ret (.tu [.ce (.val (.string (signP kid typ pl key).1)), .ce (.val (.int .i64 (signP kid typ pl key).2))]) ∧ H.Le H' ∧ G' = [] :=
 signZ_ kid typ pl key A c B d hn hm H hb.z hk.z
end Go.Kx.Jw
namespace Go.Kx.Jw
open Go.Proofs Go.Kx Go.RowKit Go.Kx.Js Go.Kx.Pr Go.Kx.Rt Go.Kx.Ob Go.Kx.Wo Go.Kx.Cl Go.Kx.Pa Go.Kx.En Go.Kx.Sha Go.Kx.Ro Go.Kx.Su
set_option maxRecDepth 20000
set_option linter.unusedSimpArgs false
def brokenV (e : Int) : Value := .iface 196 (.agg #[.int .i64 e])
def panE (e : Int) : SE := .pan [{ v := brokenV e, recovered := false }]
theorem mustY (x : Int) (H : Hp) : CallO Tryz.prog 158 [pv (.bool true), pv (.int .i64 x)] H [] fun e H' G' => e = .ret (.tu []) ∧ H' = H ∧ G' = [] := by
 refine CallO.of_body tab Tryz.func158 rfl (nt := Tryz.f158.ntmps) rfl (by kernel_rfl) ?_
 (conv => whnf)
 exact ⟨rfl, rfl, rfl⟩
theorem mustN (x : Int) (H : Hp) : CallO Tryz.prog 158 [pv (.bool false), pv (.int .i64 x)] H [] fun e H' G' => e = panE x ∧ H' = H ∧ G' = [] := by
 refine CallO.of_body tab Tryz.func158 rfl (nt := Tryz.f158.ntmps) rfl (by kernel_rfl) ?_
 (conv => whnf)
 exact ⟨rfl, rfl, rfl⟩
def RBy (s : ByteArray) (e : SE) (H' : Hp) : Prop := match decP s with
 | some L => ∃ B m c, e = .ret (pv (.slice B m c)) ∧ BytesAt H' B m L
 | none => e = panE 10
theorem bytes_ (s : ByteArray) (hs : s.size ≤ 1000000) (H : Hp) : CallO Tryz.prog 160 [pv (.string s)] H [] fun e H' G' => RBy s e H' ∧ H.Le H' ∧ G' = [] := by
 unfold RBy
 refine CallO.of_body tab Tryz.func160 rfl (nt := Tryz.f160.ntmps) rfl (by kernel_rfl) ?_
 (conv => whnf)
 refine ⟨⟨_, Tryz.func200, rfl, by kernel_rfl⟩, CallS.use (dec_ s hs H) [] rfl rfl trivial ?_⟩
 rintro e H1 G' hle1 ⟨hd, rfl⟩
 rcases hd with ⟨hd, rfl⟩ | ⟨L, B, m, c, hd, rfl, hb⟩
 all_goals
  rw [hd]
  (conv => whnf)
 ·refine ⟨⟨_, Tryz.func158, rfl, by kernel_rfl⟩, CallS.use (mustN 10 H1) [] rfl rfl trivial ?_⟩
  rintro e H2 G' hle2 ⟨rfl, rfl, rfl⟩
  (conv => whnf)
  exact ⟨rfl, hle1, rfl⟩
 ·refine ⟨⟨_, Tryz.func158, rfl, by kernel_rfl⟩, CallS.use (mustY 10 H1) [] rfl rfl trivial ?_⟩
  rintro e H2 G' hle2 ⟨rfl, rfl, rfl⟩
  (conv => whnf)
  exact ⟨⟨_, _, _, rfl, hb⟩, hle1, rfl⟩
def RW (o : Option ByteArray) (e : SE) : Prop := match o with
 | some s => e = .ret (pv (.string s))
 | none => e = panE 10
theorem member_ (j : J) (hl : j.mems.length ≤ 1000000) (s : ByteArray) (k : Int) (y : Bool) (t : ByteArray) (A : Option Addr) (n c : Nat) (B : Option Addr) (m d : Nat) (H : Hp) (hj : JAt H j [.int .i64 k, .bool y, .string t, .slice A n c, .slice B m d]) :
  CallO Tryz.prog 161 [agJ k y t A n c B m d, pv (.string s)] H [] fun e H' G' => RW (wordJ j s) e ∧ H.Le H' ∧ G' = [] := by
 unfold wordJ
 refine CallO.of_body tab Tryz.func161 rfl (nt := Tryz.f161.ntmps) rfl (by kernel_rfl) ?_
 (conv => whnf)
 refine ⟨⟨_, Tryz.func41, rfl, by kernel_rfl⟩, CallS.use (get_ j k y t A n c B m d s H hj hl) [] rfl rfl trivial ?_⟩
 rintro e H1 G' hle1 ⟨rfl, hg, rfl⟩
 cases hgj : j.get s with
 | none =>
  rw [hgj] at hg
  obtain rfl := hg
  (conv => whnf)
  refine ⟨⟨_, Tryz.func158, rfl, by kernel_rfl⟩, CallS.use (mustN 10 _) [] rfl rfl trivial ?_⟩
  rintro e H2 G' hle2 ⟨rfl, rfl, rfl⟩
  (conv => whnf)
  exact ⟨rfl, hle1, rfl⟩
 | some q =>
  rw [hgj] at hg
  obtain ⟨k2, y2, t2, A2, n2, c2, B2, m2, d2, rfl, hj2⟩ := hg
  obtain ⟨rfl, rfl⟩ : k2 = q.kind ∧ t2 = q.text := by cases hj2; exact ⟨rfl, rfl⟩
  dsimp only
  (conv => whnf)
  refine br.of (fun h => ?_) (fun h => ?_) <;> (conv => whnf)
  ·simp only [beq_iff_eq] at h
   refine ⟨⟨_, Tryz.func113, rfl, by kernel_rfl⟩, CallS.use (jwsWord q.text _) [] rfl rfl trivial ?_⟩
   rintro e H2 G' hle2 ⟨rfl, rfl⟩
   cases hw : Wo.wordP 40 q.text
   all_goals (conv => whnf)
   ·rw [if_neg (by simp)]
    refine ⟨⟨_, Tryz.func158, rfl, by kernel_rfl⟩, CallS.use (mustN 10 _) [] rfl rfl trivial ?_⟩
    rintro e H3 G' hle3 ⟨rfl, rfl, rfl⟩
    (conv => whnf)
    exact ⟨rfl, hle2, rfl⟩
   ·rw [if_pos ⟨h, rfl⟩]
    refine ⟨⟨_, Tryz.func158, rfl, by kernel_rfl⟩, CallS.use (mustY 10 _) [] rfl rfl trivial ?_⟩
    rintro e H3 G' hle3 ⟨rfl, rfl, rfl⟩
    (conv => whnf)
    exact ⟨rfl, hle2, rfl⟩
  ·simp only [beq_eq_false_iff_ne, ne_eq] at h
   rw [if_neg (fun h2 => h h2.1)]
   refine ⟨⟨_, Tryz.func158, rfl, by kernel_rfl⟩, CallS.use (mustN 10 _) [] rfl rfl trivial ?_⟩
   rintro e H3 G' hle3 ⟨rfl, rfl, rfl⟩
   (conv => whnf)
   exact ⟨rfl, hle1, rfl⟩
def RMt (b : Bool) : SE := match b with
 | true => .ret (.tu [])
 | false => panE 42
theorem method_ (j : J) (hl : j.mems.length ≤ 1000000) (k : Int) (y : Bool) (t : ByteArray) (A : Option Addr) (n c : Nat) (B : Option Addr) (m d : Nat) (H : Hp) (hj : JAt H j [.int .i64 k, .bool y, .string t, .slice A n c, .slice B m d]) :
  CallO Tryz.prog 162 [agJ k y t A n c B m d] H [] fun e H' G' => e = RMt (methodP j) ∧ H.Le H' ∧ G' = [] := by
 unfold methodP
 refine CallO.of_body tab Tryz.func162 rfl (nt := Tryz.f162.ntmps) rfl (by kernel_rfl) ?_
 (conv => whnf)
 refine ⟨⟨_, Tryz.func41, rfl, by kernel_rfl⟩, CallS.use (get_ j k y t A n c B m d sAlg H hj hl) [] rfl rfl trivial ?_⟩
 rintro e H1 G' hle1 ⟨rfl, hg, rfl⟩
 cases hgj : j.get sAlg with
 | none =>
  rw [hgj] at hg
  obtain rfl := hg
  (conv => whnf)
  refine ⟨⟨_, Tryz.func158, rfl, by kernel_rfl⟩, CallS.use (mustN 42 _) [] rfl rfl trivial ?_⟩
  rintro e H2 G' hle2 ⟨rfl, rfl, rfl⟩
  (conv => whnf)
  exact ⟨rfl, hle1, rfl⟩
 | some q =>
  rw [hgj] at hg
  obtain ⟨k2, y2, t2, A2, n2, c2, B2, m2, d2, rfl, hj2⟩ := hg
  obtain ⟨rfl, rfl⟩ : k2 = q.kind ∧ t2 = q.text := by cases hj2; exact ⟨rfl, rfl⟩
  dsimp only
  (conv => whnf)
  refine br.of (fun h => ?_) (fun h => ?_) <;> (conv => whnf)
  rotate_left
  ·have h' : (q.kind == 4) = false := h
   rw [h', Bool.false_and, Bool.false_and]
   refine ⟨⟨_, Tryz.func158, rfl, by kernel_rfl⟩, CallS.use (mustN 42 _) [] rfl rfl trivial ?_⟩
   rintro e H3 G' hle3 ⟨rfl, rfl, rfl⟩
   (conv => whnf)
   exact ⟨rfl, hle1, rfl⟩
  have h' : (q.kind == 4) = true := h
  rw [h', Bool.true_and]
  generalize strEq q.text sHs = b
  cases b
  all_goals (conv => whnf)
  ·refine ⟨⟨_, Tryz.func158, rfl, by kernel_rfl⟩, CallS.use (mustN 42 _) [] rfl rfl trivial ?_⟩
   rintro e H3 G' hle3 ⟨rfl, rfl, rfl⟩
   (conv => whnf)
   exact ⟨rfl, hle1, rfl⟩
  refine ⟨⟨_, Tryz.func158, rfl, by kernel_rfl⟩, CallS.use (mustY 42 _) [] rfl rfl trivial ?_⟩
  rintro e H3 G' hle3 ⟨rfl, rfl, rfl⟩
  (conv => whnf)
  refine ⟨⟨_, Tryz.func41, rfl, by kernel_rfl⟩, CallS.use (get_ j k y t A n c B m d sCrit _ hj hl) [] rfl rfl trivial ?_⟩
  rintro e H4 G' hle4 ⟨rfl, hg4, rfl⟩
  cases hgc : j.get sCrit with
  | none =>
   rw [hgc] at hg4
   obtain rfl := hg4
   (conv => whnf)
   refine ⟨⟨_, Tryz.func158, rfl, by kernel_rfl⟩, CallS.use (mustY 42 _) [] rfl rfl trivial ?_⟩
   rintro e H5 G' hle5 ⟨rfl, rfl, rfl⟩
   (conv => whnf)
   exact ⟨rfl, hle1, rfl⟩
  | some q4 =>
   rw [hgc] at hg4
   obtain ⟨k3, y3, t3, A3, n3, c3, B3, m3, d3, rfl, hj3⟩ := hg4
   (conv => whnf)
   refine ⟨⟨_, Tryz.func158, rfl, by kernel_rfl⟩, CallS.use (mustN 42 _) [] rfl rfl trivial ?_⟩
   rintro e H5 G' hle5 ⟨rfl, rfl, rfl⟩
   (conv => whnf)
   exact ⟨rfl, hle1, rfl⟩
end Go.Kx.Jw
namespace Go.Kx.Jw
open Go.Proofs Go.Kx Go.RowKit Go.Kx.Js Go.Kx.Pr Go.Kx.Rt Go.Kx.Ob Go.Kx.Wo Go.Kx.Cl Go.Kx.Pa Go.Kx.En Go.Kx.Sha Go.Kx.Ro Go.Kx.Su
set_option maxRecDepth 20000
set_option linter.unusedSimpArgs false
theorem partsL_mem (c : UInt8) : ∀ (r cur : List UInt8), ∀ p ∈ partsL c cur r, p.length ≤ cur.length + r.length
 | [], cur => fun p hp => by simp [partsL] at hp; subst hp; simp
 | x :: r, cur => fun p hp => by
  unfold partsL at hp
  split at hp
  ·rcases List.mem_cons.1 hp with rfl | hp
   ·simp only [List.length_cons]; omega
   ·have := partsL_mem c r [] p hp; simp only [List.length_cons, List.length_nil] at *; omega
  ·have := partsL_mem c r (cur ++ [x]) p hp; simp only [List.length_append, List.length_cons, List.length_nil] at *; omega
theorem decG_len : ∀ (l : List UInt8) (r n : Nat) {o : List UInt8}, decG r n l = some o → o.length ≤ l.length
 | [], r, n, o, h => by
  unfold decG at h
  split at h
  ·cases h
  ·injection h with h; rw [← h]; simp
 | c :: l, r, n, o, h => by
  unfold decG at h
  split at h
  ·cases h
  split at h
  ·have := decG_len l _ _ h
   simp only [List.length_cons]; omega
  ·cases hd : decG ((r * 64 + (numL c).toNat) % 2 ^ (n - 2)) (n - 2) l with
   | none => rw [hd] at h; cases h
   | some o2 =>
    rw [hd] at h
    injection h with h
    have := decG_len l _ _ hd
    rw [← h]
    simp only [List.length_cons]; omega
theorem decP_len {l o : List UInt8} (h : decP ⟨l.toArray⟩ = some o) : o.length ≤ l.length := decG_len l 0 0 h
def RTok (x : Except Int Tok) (e : SE) (H' : Hp) : Prop := match x with
 | .ok t => ∃ A n c B m d, e = .ret (.si (.ag [.val (.string t.kid), .val (.string t.typ), .val (.slice A n c), .val (.string ⟨t.signed.toArray⟩), .val (.slice B m d)])) ∧ BytesAt H' A n t.payload ∧ BytesAt H' B m t.tag
 | .error x => e = panE x
theorem parts_ (s : ByteArray) (hs : s.size ≤ 1000000) (H : Hp) : CallO Tryz.prog 127 [pv (.string s)] H [] fun e H' G' => RTok (partsP s) e H' ∧ H.Le H' ∧ G' = [] := by
 have hpl := partsL_len 46 s.data.toList []
 have hsl : s.data.toList.length = s.size := by rw [Array.length_toList]; rfl
 have hpd : partsP s = if s.size > 49152 then .error 11 else
  match partsL 46 [] s.data.toList with
  | [a, b, c] => tok3 a b c
  | _ => .error 10 := rfl
 refine CallO.of_body tab Tryz.func127 rfl (nt := Tryz.f127.ntmps) rfl (by kernel_rfl) ?_
 (conv => whnf)
 cases hsz : decide ((s.size : Int) ≤ 49152)
 all_goals (conv => whnf)
 ·have hsz := of_decide_eq_false hsz
  rw [hpd, if_pos (by omega)]
  refine ⟨⟨_, Tryz.func158, rfl, by kernel_rfl⟩, CallS.use (mustN 11 _) [] rfl rfl trivial ?_⟩
  rintro e H2 G' hle2 ⟨rfl, rfl, rfl⟩
  (conv => whnf)
  exact ⟨rfl, .refl _, rfl⟩
 have hsz := of_decide_eq_true hsz
 rw [hpd, if_neg (by omega)]
 refine ⟨⟨_, Tryz.func158, rfl, by kernel_rfl⟩, CallS.use (mustY 11 _) [] rfl rfl trivial ?_⟩
 rintro e H2 G' hle2 ⟨rfl, rfl, rfl⟩
 (conv => whnf)
 refine ⟨⟨_, Tryz.func159, rfl, by kernel_rfl⟩, CallS.use (split_ s hs _) [] rfl rfl trivial ?_⟩
 rintro e H3 G' hle3 ⟨rfl, rfl, rfl⟩
 generalize hP : partsL 46 [] s.data.toList = P at hpl
 (conv => whnf)
 by_cases h3 : P.length = 3
 rotate_left
 ·have e1 : (((P.length : Nat) : Int) == 3) = false := beq_eq_false_iff_ne.2 (by omega)
  have e2 : (match P with | [a, b, c] => tok3 a b c | _ => Except.error (10 : Int)) = .error 10 := by
   match P, h3 with
   | [], _ => rfl
   | [_], _ => rfl
   | [_, _], _ => rfl
   | [_, _, _], h => exact absurd rfl h
   | _ :: _ :: _ :: _ :: _, _ => rfl
  rw [e1, e2]
  refine ⟨⟨_, Tryz.func158, rfl, by kernel_rfl⟩, CallS.use (mustN 10 _) [] rfl rfl trivial ?_⟩
  rintro e H4 G' hle4 ⟨rfl, rfl, rfl⟩
  (conv => whnf)
  exact ⟨rfl, .refl _, rfl⟩
 obtain ⟨a, b, c, rfl⟩ : ∃ a b c, P = [a, b, c] := by
  match P, h3 with
  | [a, b, c], _ => exact ⟨a, b, c, rfl⟩
 have hpm := partsL_mem 46 s.data.toList []
 rw [hP] at hpm
 have la := hpm a (by simp)
 have lb := hpm b (by simp)
 have lc := hpm c (by simp)
 simp only [List.length_nil] at la lb lc
 have sa : (⟨a.toArray⟩ : ByteArray).size ≤ 1000000 := by rw [bs_size]; omega
 have sb : (⟨b.toArray⟩ : ByteArray).size ≤ 1000000 := by rw [bs_size]; omega
 have sc : (⟨c.toArray⟩ : ByteArray).size ≤ 1000000 := by rw [bs_size]; omega
 have ba := bytes_ ⟨a.toArray⟩ sa
 have bb := bytes_ ⟨b.toArray⟩ sb
 have bc := bytes_ ⟨c.toArray⟩ sc
 unfold RBy at ba bb bc
 have e1 : (((([a, b, c] : List (List UInt8)).length : Nat) : Int) == 3) = true := rfl
 have e3 : (match [a, b, c] with | [a, b, c] => tok3 a b c | _ => Except.error (10 : Int)) = tok3 a b c := rfl
 rw [e1, e3]
 clear hpl hpm hP hpd
 unfold tok3
 refine ⟨⟨_, Tryz.func158, rfl, by kernel_rfl⟩, CallS.use (mustY 10 _) [] rfl rfl trivial ?_⟩
 rintro e H4 G' hle4 ⟨rfl, rfl, rfl⟩
 (conv => whnf)
 refine WS.draw tab mixed (.take 0 (.take 1 (.take 2 (.take 4 (.take 5 (.take 6 (.take 8 (.take 9 (.take 10 (.alt 3 (.alt 7 (.alt 11 (.take 12 (.take 13 (.take 14 .done))) .no) .no) .no)))))))))) (by kernel_rfl) [] ?_
 (conv => whnf)
 refine ⟨⟨by decide, by show (0 : Int) < 3; decide⟩, ?_⟩
 (conv => whnf)
 refine ⟨_, rfl, ?_⟩
 (conv => whnf)
 refine ⟨⟨by decide, by show (1 : Int) < 3; decide⟩, ?_⟩
 (conv => whnf)
 refine ⟨_, rfl, ?_⟩
 (conv => whnf)
 refine ⟨⟨by decide, by show (2 : Int) < 3; decide⟩, ?_⟩
 (conv => whnf)
 refine ⟨_, rfl, ?_⟩
 (conv => whnf)
 refine And.intro ?_ ?_ <;> (conv => whnf)
 rotate_left
 ·exact trivial
 refine ⟨⟨_, Tryz.func160, rfl, by kernel_rfl⟩, CallS.use (ba H4) [] rfl rfl trivial ?_⟩
 rintro e H5 G' hle5 ⟨hx, hle5', rfl⟩
 cases hda : decP ⟨a.toArray⟩ with
 | none =>
  rw [hda] at hx
  obtain rfl := hx
  (conv => whnf)
  exact ⟨rfl, hle5, rfl⟩
 | some La =>
 rw [hda] at hx
 obtain ⟨B1, m1, c1, rfl, hb1⟩ := hx
 have hl1 := decP_len hda
 (conv => whnf)
 refine ⟨⟨rfl, rfl, trivial⟩, ?_⟩
 (conv => whnf)
 refine And.intro ?_ ?_ <;> (conv => whnf)
 rotate_left
 ·exact trivial
 refine ⟨⟨_, Tryz.func160, rfl, by kernel_rfl⟩, CallS.use (bb H5) [] rfl rfl trivial ?_⟩
 rintro e H6 G' hle6 ⟨hx, hle6', rfl⟩
 have hle6 := hle5.trans hle6
 cases hdb : decP ⟨b.toArray⟩ with
 | none =>
  rw [hdb] at hx
  obtain rfl := hx
  (conv => whnf)
  exact ⟨rfl, hle6, rfl⟩
 | some Lb =>
 rw [hdb] at hx
 obtain ⟨B2, m2, c2, rfl, hb2⟩ := hx
 have hl2 := decP_len hdb
 (conv => whnf)
 refine ⟨⟨rfl, rfl, trivial⟩, ?_⟩
 (conv => whnf)
 refine And.intro ?_ ?_ <;> (conv => whnf)
 rotate_left
 ·exact trivial
 refine ⟨⟨_, Tryz.func160, rfl, by kernel_rfl⟩, CallS.use (bc H6) [] rfl rfl trivial ?_⟩
 rintro e H7 G' hle7 ⟨hx, hle7', rfl⟩
 have hle67 := hle6'.trans hle7
 have hle7 := hle6.trans hle7
 cases hdc : decP ⟨c.toArray⟩ with
 | none =>
  rw [hdc] at hx
  obtain rfl := hx
  (conv => whnf)
  exact ⟨rfl, hle7, rfl⟩
 | some Lc =>
 rw [hdc] at hx
 obtain ⟨B3, m3, c3, rfl, hb3⟩ := hx
 have hl3 := decP_len hdc
 (conv => whnf)
 refine ⟨⟨rfl, rfl, trivial⟩, ?_⟩
 (conv => whnf)
 have hm1 := hb1.1
 have hm2 := hb2.1
 have hm3 := hb3.1
 have hb1' := hb1.mono hle67
 have hb2' := hb2.mono hle7'
 dsimp only
 have hszJ := parse_sz La 4
 have hpar := parse_ La B1 m1 c1 4 H7 hb1'.z (by omega)
 generalize parseP La 4 = X at hszJ hpar ⊢
 obtain ⟨J0, er, at0⟩ := X
 dsimp only at hszJ hpar ⊢
 have hlm := sm_len (sm_of J0 (by omega))
 refine ⟨⟨_, Tryz.func55, rfl, by kernel_rfl⟩, CallS.use hpar [] rfl rfl trivial ?_⟩
 rintro e H8 G' hle8 ⟨⟨k, y, t, A0, n0, c0, B0, m0, f0, rfl, hj⟩, rfl⟩
 have hk0 : k = J0.kind := by cases hj; rfl
 have hle8' := hle7.trans hle8
 (conv => whnf)
 refine br.of (fun h5 => ?_) (fun h5 => ?_) <;> (conv => whnf)
 rotate_left
 ·have h5 : ¬ er = 0 := by simpa using h5
  rw [if_neg (fun h => h5 h.1)]
  refine ⟨⟨_, Tryz.func158, rfl, by kernel_rfl⟩, CallS.use (mustN 10 _) [] rfl rfl trivial ?_⟩
  rintro e H9 G' hle9 ⟨rfl, rfl, rfl⟩
  (conv => whnf)
  exact ⟨rfl, hle8', rfl⟩
 have h5 : er = 0 := by simpa using h5
 generalize hk6 : ((k : Int) == 6) = b6
 cases b6
 all_goals (conv => whnf)
 ·have hk6 : ¬ k = 6 := by simpa using hk6
  rw [if_neg (fun h => hk6 (by rw [hk0]; exact h.2))]
  refine ⟨⟨_, Tryz.func158, rfl, by kernel_rfl⟩, CallS.use (mustN 10 _) [] rfl rfl trivial ?_⟩
  rintro e H9 G' hle9 ⟨rfl, rfl, rfl⟩
  (conv => whnf)
  exact ⟨rfl, hle8', rfl⟩
 have hk6 : k = 6 := by simpa using hk6
 rw [if_pos ⟨h5, by rw [← hk0]; exact hk6⟩]
 refine ⟨⟨_, Tryz.func158, rfl, by kernel_rfl⟩, CallS.use (mustY 10 _) [] rfl rfl trivial ?_⟩
 rintro e H9 G' hle9 ⟨rfl, rfl, rfl⟩
 (conv => whnf)
 clear hpar h5 ba bb bc
 have hmk := fun H' (hle : H9.Le H') => member_ J0 hlm sKid k y t A0 n0 c0 B0 m0 f0 H' (hj.mono hle)
 have hmt := fun H' (hle : H9.Le H') => member_ J0 hlm sTyp k y t A0 n0 c0 B0 m0 f0 H' (hj.mono hle)
 have hbP := hb2'.mono hle8
 have hbT := hb3.mono hle8
 unfold RW at hmk hmt
 cases hwk : wordJ J0 sKid with
 | none =>
  rw [hwk] at hmk
  refine WS.draw tab mixed (.take 0 (.take 2 (.alt 1 (.alt 3 (.take 4 (.alt 5 (.alt 6 .done .no) .no)) (.alt 5 (.alt 3 (.take 4 (.alt 6 .done .no)) .no) .no)) (.alt 5 (.alt 1 (.alt 3 (.take 4 (.alt 6 .done .no)) .no) .no) .no)))) (by kernel_rfl) [] ?_
  (conv => whnf)
  repeat' (first
   | exact trivial
   | exact ⟨rfl, rfl, rfl, trivial⟩
   | exact ⟨_, Tryz.func161, rfl, by kernel_rfl⟩
   | (refine CallS.use (hmk H9 (.refl _)) [] rfl rfl trivial ?_; rintro e H10 G' hle10 ⟨rfl, hle10', rfl⟩; (conv => whnf))
   | exact ⟨rfl, hle8'.trans hle10, rfl⟩
   | (refine And.intro ?_ ?_ <;> (conv => whnf)))
 | some kid =>
 rw [hwk] at hmk
 cases hwt : wordJ J0 sTyp with
 | none =>
  rw [hwt] at hmt
  refine WS.draw tab mixed (.take 0 (.take 2 (.alt 1 (.alt 3 (.take 4 (.alt 5 (.alt 6 .done .no) .no)) (.alt 5 (.alt 3 (.take 4 (.alt 6 .done .no)) .no) .no)) (.alt 5 (.alt 1 (.alt 3 (.take 4 (.alt 6 .done .no)) .no) .no) .no)))) (by kernel_rfl) [] ?_
  (conv => whnf)
  repeat' (first
   | exact trivial
   | exact ⟨rfl, rfl, rfl, trivial⟩
   | exact ⟨_, Tryz.func161, rfl, by kernel_rfl⟩
   | (refine CallS.use (hmk H9 (.refl _)) [] rfl rfl trivial ?_; rintro e H10 G' hle10 ⟨rfl, hle10', rfl⟩; (conv => whnf))
   | (refine CallS.use (hmt _ hle10) [] rfl rfl trivial ?_; rintro e H11 G' hle11 ⟨rfl, hle11', rfl⟩; (conv => whnf))
   | exact ⟨rfl, (hle8'.trans hle10).trans hle11, rfl⟩
   | (refine And.intro ?_ ?_ <;> (conv => whnf)))
 | some typ =>
 rw [hwt] at hmt
 dsimp only
 refine WS.draw tab mixed (.take 0 (.take 2 (.alt 1 (.alt 3 (.take 4 (.alt 5 (.alt 6 .done .no) .no)) (.alt 5 (.alt 3 (.take 4 (.alt 6 .done .no)) .no) .no)) (.alt 5 (.alt 1 (.alt 3 (.take 4 (.alt 6 .done .no)) .no) .no) .no)))) (by kernel_rfl) [] ?_
 (conv => whnf)
 repeat' (first
  | exact trivial
  | exact ⟨rfl, rfl, rfl, trivial⟩
  | exact ⟨_, Tryz.func161, rfl, by kernel_rfl⟩
  | (refine CallS.use (hmk H9 (.refl _)) [] rfl rfl trivial ?_; rintro e H10 G' hle10 ⟨rfl, hle10', rfl⟩; (conv => whnf))
  | (refine CallS.use (hmt _ hle10) [] rfl rfl trivial ?_; rintro e H11 G' hle11 ⟨rfl, hle11', rfl⟩; (conv => whnf))
  | (refine And.intro ?_ ?_ <;> (conv => whnf)))
 all_goals
  have hleE := (hle8'.trans hle10).trans hle11
  refine br.of (fun h6 => ?_) (fun h6 => ?_) <;> (conv => whnf)
  rotate_left
  ·have h6 := of_decide_eq_false h6
   rw [if_neg (fun h => h6 (by have := h.1; omega))]
   refine ⟨⟨_, Tryz.func158, rfl, by kernel_rfl⟩, CallS.use (mustN 10 _) [] rfl rfl trivial ?_⟩
   rintro e H12 G' hle12 ⟨rfl, rfl, rfl⟩
   (conv => whnf)
   exact ⟨rfl, hleE, rfl⟩
  have h6 := of_decide_eq_true h6
  generalize hk7 : ((m3 : Int) == 32) = b7
  cases b7
  all_goals (conv => whnf)
  ·have hk7 : ¬ (m3 : Int) = 32 := by simpa using hk7
   rw [if_neg (fun h => hk7 (by have := h.2; omega))]
   refine ⟨⟨_, Tryz.func158, rfl, by kernel_rfl⟩, CallS.use (mustN 10 _) [] rfl rfl trivial ?_⟩
   rintro e H12 G' hle12 ⟨rfl, rfl, rfl⟩
   (conv => whnf)
   exact ⟨rfl, hleE, rfl⟩
  have hk7 : (m3 : Int) = 32 := by simpa using hk7
  rw [if_pos ⟨by omega, by omega⟩]
  refine ⟨⟨_, Tryz.func158, rfl, by kernel_rfl⟩, CallS.use (mustY 10 _) [] rfl rfl trivial ?_⟩
  rintro e H12 G' hle12 ⟨rfl, rfl, rfl⟩
  (conv => whnf)
  refine ⟨⟨_, Tryz.func162, rfl, by kernel_rfl⟩, CallS.use (method_ J0 hlm k y t A0 n0 c0 B0 m0 f0 _ (hj.mono (hle10.trans hle11))) [] rfl rfl trivial ?_⟩
  rintro e H13 G' hle13 ⟨rfl, hle13', rfl⟩
  cases methodP J0
  all_goals (conv => whnf)
  ·rw [if_neg (by decide)]
   exact ⟨rfl, hleE.trans hle13, rfl⟩
  rw [if_pos rfl]
  have hbP2 := ((hbP.mono hle10).mono hle11).mono hle13
  have hbT2 := ((hbT.mono hle10).mono hle11).mono hle13
  have zd : (⟨#[46]⟩ : ByteArray) = ⟨([46] : List UInt8).toArray⟩ := rfl
  have hsd : (⟨a.toArray⟩ : ByteArray) ++ ⟨#[46]⟩ ++ ⟨b.toArray⟩ = ⟨(a ++ 46 :: b).toArray⟩ := by
   rw [zd, bs_app, bs_app]; simp
  have z1 : ∀ a b : ByteArray, (a ++ b).size = a.size + b.size := fun a b => ByteArray.size_append
  have q1 : (⟨a.toArray⟩ : ByteArray).size + 1 ≤ 9223372036854775807 := by omega
  have q2 : ((⟨a.toArray⟩ : ByteArray) ++ ⟨#[46]⟩).size + (⟨b.toArray⟩ : ByteArray).size ≤ 9223372036854775807 := by rw [z1]; show _ + 1 + _ ≤ _; omega
  refine WS.draw tab mixed (.take 0 (.take 1 (.take 2 (.take 3 (.take 4 (.take 5 (.take 6 (.take 7 (.take 8 (.take 9 (.take 10 (.take 11 (.alt 12 .done .no))))))))))))) (by kernel_rfl) [0] ?_
  (conv => whnf)
  refine ⟨⟨by decide, by show (0 : Int) < 3; decide⟩, ?_⟩
  (conv => whnf)
  refine ⟨_, rfl, ?_⟩
  (conv => whnf)
  refine ⟨q1, ?_⟩
  (conv => whnf)
  refine ⟨⟨by decide, by show (1 : Int) < 3; decide⟩, ?_⟩
  (conv => whnf)
  refine ⟨_, rfl, ?_⟩
  (conv => whnf)
  refine ⟨q2, ?_⟩
  (conv => whnf)
  rw [hsd]
  refine And.intro ?_ ?_ <;> (conv => whnf)
  rotate_left
  ·exact trivial
  refine ⟨⟨trivial, rfl, rfl, rfl, trivial⟩, ?_⟩
  (conv => whnf)
  exact ⟨⟨_, _, _, _, _, _, rfl, hbP2, hbT2⟩, hleE.trans hle13, rfl⟩
end Go.Kx.Jw
namespace Go.Kx.Jw
open Go.Proofs Go.Kx Go.RowKit Go.Kx.Js Go.Kx.Pr Go.Kx.Rt Go.Kx.Ob Go.Kx.Wo Go.Kx.Cl Go.Kx.Pa Go.Kx.En Go.Kx.Sha Go.Kx.Ro Go.Kx.Su
set_option maxRecDepth 20000
set_option linter.unusedSimpArgs false
def pB (cs : List SC) : SB := .box 95 cs
def eB (e : Int) : SB := .box 35 [.val (.int .i64 e)]
def zP : List SC := [.val (.string ⟨#[]⟩), .val (.string ⟨#[]⟩), .val (.slice none 0 0), .val (.string ⟨#[]⟩), .val (.slice none 0 0)]
theorem catchYes (e : Int) (H : Hp) : CallDO Tryz.prog 157 [.si (.ce (.ptr 0 0)), .si (.ce (.ptr 1 0))] (.panicking [⟨brokenV e, false, false⟩]) H [pB zP, eB 0] fun u H' G' => u = .panicking [⟨brokenV e, true, false⟩] ∧ H' = H ∧ G' = [pB zP, eB e] := by
 refine CallDO.of_body tab Tryz.func157 rfl rfl rfl rfl (nt := Tryz.f157.ntmps) rfl (by kernel_rfl) ?_
 (conv => whnf)
 refine WS.draw tab mixed (.take 0 (.take 1 (.take 2 (.alt 3 (.alt 4 .done .no) .no)))) (by kernel_rfl) [0, 1] ?_
 (conv => whnf)
 repeat' (first
  | exact trivial
  | exact rfl
  | exact ⟨trivial, trivial, rfl, trivial⟩
  | exact ⟨rfl, rfl, rfl⟩
  | (refine And.intro ?_ ?_ <;> (conv => whnf)))
theorem catchNo (b : List SC) (H : Hp) : CallDO Tryz.prog 157 [.si (.ce (.ptr 0 0)), .si (.ce (.ptr 1 0))] .returning H [pB b, eB 0] fun u H' G' => u = .returning ∧ H' = H ∧ G' = [pB b, eB 0] := by
 refine CallDO.of_body tab Tryz.func157 rfl rfl rfl rfl (nt := Tryz.f157.ntmps) rfl (by kernel_rfl) ?_
 (conv => whnf)
 try split
 all_goals exact ⟨rfl, rfl, rfl⟩
def RTk (x : Except Int Tok) (e : SE) (H' : Hp) : Prop := match x with
 | .ok t => ∃ A n c B m d, e = .ret (.tu [.ag [.val (.string t.kid), .val (.string t.typ), .val (.slice A n c), .val (.string ⟨t.signed.toArray⟩), .val (.slice B m d)], .ce (.val (.int .i64 0))]) ∧ BytesAt H' A n t.payload ∧ BytesAt H' B m t.tag
 | .error x => e = .ret (.tu [.ag zP, .ce (.val (.int .i64 x))])
theorem caught_ (s : ByteArray) (hs : s.size ≤ 1000000) (H : Hp) : CallO Tryz.prog 126 [.si (.ce (.fn (.func 127) 0 [])), pv (.string s)] H [] fun e H' G' => RTk (partsP s) e H' ∧ H.Le H' ∧ G' = [] := by
 have hp := parts_ s hs
 generalize partsP s = X at hp ⊢
 refine CallO.of_bodyD tab Tryz.func126 rfl (pre := [_]) rfl rfl rfl (nt := Tryz.f126.ntmps) rfl (by kernel_rfl) [4, 5] ?_
 (conv => whnf)
 refine ⟨⟨_, Tryz.func157, rfl, by kernel_rfl⟩, ?_⟩
 (conv => whnf)
 intro ds vs
 (conv => whnf)
 refine ⟨⟨_, Tryz.func127, rfl, by kernel_rfl⟩, CallS.use (hp H) [] rfl rfl trivial ?_⟩
 rintro e H2 G' hle2 ⟨hout, hle2', rfl⟩
 cases X with
 | error x =>
  obtain rfl := hout
  (conv => whnf)
  refine CallDS.use (catchYes x H2) ?_
  rintro u' H3 G' hle3 ⟨rfl, rfl, rfl⟩
  (conv => whnf)
  exact ⟨rfl, hle2, rfl⟩
 | ok tk =>
  obtain ⟨A, n, c, B, m, d, rfl, hb1, hb2⟩ := hout
  (conv => whnf)
  refine CallDS.use (catchNo _ H2) ?_
  rintro u' H3 G' hle3 ⟨rfl, rfl, rfl⟩
  (conv => whnf)
  exact ⟨⟨_, _, _, _, _, _, rfl, hb1, hb2⟩, hle2, rfl⟩
theorem parse_ (s : ByteArray) (hs : s.size ≤ 1000000) (H : Hp) : CallO Tryz.prog 89 [pv (.string s)] H [] fun e H' G' => RTk (partsP s) e H' ∧ H.Le H' ∧ G' = [] := by
 have hp := caught_ s hs
 generalize partsP s = X at hp ⊢
 refine CallO.of_body tab Tryz.func89 rfl (nt := Tryz.f89.ntmps) rfl (by kernel_rfl) ?_
 (conv => whnf)
 refine ⟨⟨_, Tryz.func126, rfl, by kernel_rfl⟩, CallS.use (hp H) [] rfl rfl trivial ?_⟩
 rintro e H2 G' hle2 ⟨hout, hle2', rfl⟩
 cases X with
 | error x =>
  obtain rfl := hout
  (conv => whnf)
  exact ⟨rfl, hle2, rfl⟩
 | ok tk =>
  obtain ⟨A, n, c, B, m, d, rfl, hb1, hb2⟩ := hout
  (conv => whnf)
  exact ⟨⟨_, _, _, _, _, _, rfl, hb1, hb2⟩, hle2, rfl⟩
end Go.Kx.Jw
namespace Go.Kx.Jw
open Go.Proofs Go.Kx Go.RowKit Go.Kx.Js Go.Kx.Pr Go.Kx.Rt Go.Kx.Ob Go.Kx.Wo Go.Kx.Cl Go.Kx.Pa Go.Kx.En Go.Kx.Sha Go.Kx.Ro Go.Kx.Su
set_option maxRecDepth 20000
set_option linter.unusedSimpArgs false
namespace Eq
def T : Tab := [(5, { k := TK.int IntKind.u8, agg := false, size := 1, bytes := 1, zero := [Z.i IntKind.u8] }), (95, { k := TK.st [(0, 91, 2), (2, 55, 1), (3, 9, 1), (4, 55, 1)], agg := true, size := 5, bytes := 96, zero := [Z.s, Z.s, Z.sl, Z.s, Z.sl] }), (91, { k := TK.st [(0, 9, 1), (1, 9, 1)], agg := true, size := 2, bytes := 32, zero := [Z.s, Z.s] }), (9, { k := TK.string, agg := false, size := 1, bytes := 16, zero := [Z.s] }), (55, { k := TK.slice 5, agg := false, size := 1, bytes := 24, zero := [Z.sl] }), (35, { k := TK.int IntKind.i64, agg := false, size := 1, bytes := 8, zero := [Z.i IntKind.i64] }), (4, { k := TK.bool, agg := false, size := 1, bytes := 1, zero := [Z.b] }), (3, { k := TK.int IntKind.i64, agg := false, size := 1, bytes := 8, zero := [Z.i IntKind.i64] }), (155, { k := TK.slice 55, agg := false, size := 1, bytes := 24, zero := [Z.sl] })]
set_option maxRecDepth 100000 in
theorem tab : TabOk Tryz.prog T := tabOk_mk (ts := [5, 95, 91, 9, 55, 35, 4, 3, 155]) (by kernel_rfl)
end Eq
theorem bytesV {H : Hp} {A : Option Addr} {n : Nat} {a : List UInt8} (h : BytesAt H A n a) : VAt H A n (bCells a) := ⟨by rw [bCells_length]; exact h.1, fun e => by rw [h.2.1 e]; rfl, h.2.2⟩
theorem bCells_at (a : List UInt8) (i : Nat) (h : i < a.length) : (bCells a)[i]? = some (.int .u8 (a[i]'h).toNat) := by unfold bCells; simp [h]
theorem or8' (a b : UInt8) : IntKind.u8.wrap ((BitVec.ofInt IntKind.u8.bits (a.toNat : Int) ||| BitVec.ofInt IntKind.u8.bits (b.toNat : Int)).toNat : Int) = ((a ||| b).toNat : Int) := by
 have h1 : BitVec.ofInt IntKind.u8.bits (a.toNat : Int) = a.toBitVec := by
  show BitVec.ofInt 8 _ = _
  rw [BitVec.ofInt_natCast]; simp
 have h2 : BitVec.ofInt IntKind.u8.bits (b.toNat : Int) = b.toBitVec := by
  show BitVec.ofInt 8 _ = _
  rw [BitVec.ofInt_natCast]; simp
 rw [h1, h2]
 have := (a ||| b).toNat_lt
 show ((a ||| b).toNat : Int) % 256 = _
 omega
theorem or_zero (a b : UInt8) : a ||| b = 0 ↔ a = 0 ∧ b = 0 := by
 constructor
 ·intro h
  have h1 := congrArg UInt8.toBitVec h
  simp only [UInt8.toBitVec_or] at h1
  have h2 : (0 : UInt8).toBitVec = 0#8 := rfl
  rw [h2, BitVec.or_eq_zero_iff] at h1
  exact ⟨UInt8.eq_of_toBitVec_eq h1.1, UInt8.eq_of_toBitVec_eq h1.2⟩
 ·rintro ⟨rfl, rfl⟩; rfl
theorem xor_zero (a b : UInt8) : a ^^^ b = 0 ↔ a = b := by
 constructor
 ·intro h
  have h1 := congrArg UInt8.toBitVec h
  simp only [UInt8.toBitVec_xor] at h1
  have h2 : (0 : UInt8).toBitVec = 0#8 := rfl
  rw [h2, BitVec.xor_eq_zero_iff] at h1
  exact UInt8.eq_of_toBitVec_eq h1
 ·rintro rfl; simp
theorem equal_ (a b : List UInt8) (A : Option Addr) (n c : Nat) (B : Option Addr) (m d : Nat) (hn : n ≤ 1000000) (hm : m ≤ 1000000) (H : Hp) (ha : BytesAt H A n a) (hb : BytesAt H B m b) :
  CallO Tryz.prog 90 [pv (.slice A n c), pv (.slice B m d)] H [] fun e H' G' => e = .ret (pv (.bool (decide (a = b)))) ∧ H' = H ∧ G' = [] := by
 have ha1 := ha.1
 have hb1 := hb.1
 refine CallO.of_body Eq.tab Tryz.func90 rfl (nt := Tryz.f90.ntmps) rfl (by kernel_rfl) ?_
 (conv => whnf)
 refine br.of (fun h1 => ?_) (fun h1 => ?_) <;> (conv => whnf)
 ·simp only [bne_iff_ne, ne_eq] at h1
  rw [decide_eq_false (fun h => h1 (by rw [ha1, hb1, h]))]
  exact ⟨rfl, rfl, rfl⟩
 simp only [bne_eq_false_iff_eq] at h1
 refine WS.loop (fun k' F H3 G => ∃ (i : Nat) (x : UInt8), i ≤ n ∧ (x = 0 ↔ a.take i = b.take i) ∧ k' = n - i ∧ F = [(0, pv (.slice A n c)), (1, pv (.slice B m d)), (5, pv (.int .u8 x.toNat)), (13, pv (.int .i64 n)), (14, pv (.int .i64 i))] ∧ H3 = H ∧ G = []) (n + 1) ?_ ?_
 ·refine ⟨n, by omega, _, _, [], ⟨0, 0, by omega, ⟨fun _ => by simp, fun _ => rfl⟩, rfl, rfl, rfl, rfl⟩, ?_⟩
  exact ⟨rfl, trivial, rfl, rfl, rfl, rfl, rfl, trivial⟩
 rintro k' F H3 G hle3 ⟨i, x, hi, hx, rfl, rfl, rfl, rfl⟩
 refine codeL.go Eq.tab ?_
 (conv => whnf)
 refine br.of (fun h7 => ?_) (fun h7 => ?_) <;> (conv => whnf)
 ·have h7 := of_decide_eq_true h7
  refine WS.draw Eq.tab mixed (.take 0 (.take 1 (.take 2 (.take 3 (.take 4 (.take 5 (.take 6 (.take 7 (.take 8 (.take 9 (.take 10 (.take 11 .done)))))))))))) (by kernel_rfl) [] ?_
  (conv => whnf)
  have hin : i < n := by omega
  have hia : i < a.length := by omega
  have hib : i < b.length := by omega
  have ga := bCells_at a i hia
  have gb := bCells_at b i hib
  have ta : a.take (i + 1) = a.take i ++ [a[i]'hia] := by rw [List.take_add_one, List.getElem?_eq_getElem hia]; rfl
  have tb : b.take (i + 1) = b.take i ++ [b[i]'hib] := by rw [List.take_add_one, List.getElem?_eq_getElem hib]; rfl
  generalize a[i]'hia = p at ga ta
  generalize b[i]'hib = q at gb tb
  have ho : (i : Int).toNat * 1 = i := by omega
  refine ⟨⟨by omega, by omega⟩, (bytesV ha).addr (by omega), ?_⟩
  (conv => whnf)
  refine ⟨_, (bytesV ha).get ga ho, ?_⟩
  (conv => whnf)
  refine ⟨⟨by omega, by omega⟩, (bytesV hb).addr (by omega), ?_⟩
  (conv => whnf)
  refine ⟨_, (bytesV hb).get gb ho, ?_⟩
  (conv => whnf)
  rw [xor8]
  (conv => whnf)
  rw [or8', wrap64 (x := (i : Int) + 1) (by omega) (by omega)]
  refine ⟨n - (i + 1), by omega, _, _, [], ⟨i + 1, x ||| (p ^^^ q), by omega, ?_, rfl, rfl, rfl, rfl⟩, ?_⟩
  ·rw [or_zero, xor_zero, hx, ta, tb]
   constructor
   ·rintro ⟨h1, h2⟩; rw [h1, h2]
   ·intro h
    have := List.append_inj h (by simp only [List.length_take]; omega)
    exact ⟨this.1, by simpa using this.2⟩
  ·exact ⟨rfl, trivial, rfl, rfl, rfl, rfl, rfl, trivial⟩
 ·have h7 := of_decide_eq_false h7
  obtain rfl : i = n := by omega
  rw [List.take_of_length_le (by omega), List.take_of_length_le (by omega)] at hx
  refine ⟨congrArg (fun b => SE.ret (pv (.bool b))) ?_, rfl, rfl⟩
  rw [Bool.eq_iff_iff, beq_iff_eq, decide_eq_true_eq, ← hx]
  constructor
  ·intro h; exact UInt8.toNat_inj.1 (by show x.toNat = 0; omega)
  ·intro h; subst h; rfl
theorem tok3_err {a b c : List UInt8} {x : Int} (h : tok3 a b c = .error x) : x = 10 ∨ x = 42 := by
 unfold tok3 at h
 split at h
 ·split at h
  ·split at h
   ·split at h
    ·split at h
     ·cases h
     ·injection h with h; exact .inr h.symm
    ·injection h with h; exact .inl h.symm
   ·injection h with h; exact .inl h.symm
  ·injection h with h; exact .inl h.symm
 ·injection h with h; exact .inl h.symm
theorem parts_err {s : ByteArray} {x : Int} (h : partsP s = .error x) : x = 10 ∨ x = 11 ∨ x = 42 := by
 unfold partsP at h
 split at h
 ·injection h with h; exact .inr (.inl h.symm)
 split at h
 ·rcases tok3_err h with h | h
  ·exact .inl h
  ·exact .inr (.inr h)
 ·injection h with h; exact .inl h.symm
theorem verify_ (s : ByteArray) (hs : s.size ≤ 1000000) (key : List UInt8) (B : Option Addr) (m d : Nat) (hm : m ≤ 1000000) (H : Hp) (hk : BytesAt H B m key) :
  CallO Tryz.prog 54 [pv (.string s), pv (.slice B m d)] H [] fun e H' G' => RTk (verifyP s key) e H' ∧ H.Le H' ∧ G' = [] := by
 have hp := parse_ s hs
 have hk1 := hk.1
 have hsz : ∀ t, partsP s = .ok t → t.signed.length ≤ 1000000 ∧ t.tag.length = 32 := by
  intro t ht
  have hpl := partsL_mem 46 s.data.toList []
  have hsl : s.data.toList.length = s.size := by rw [Array.length_toList]; rfl
  unfold partsP at ht
  split at ht
  ·cases ht
  split at ht
  ·rename_i a b c hP
   rw [hP] at hpl
   have h1 := hpl a (by simp)
   have h2 := hpl b (by simp)
   simp only [List.length_nil] at h1 h2
   unfold tok3 at ht
   split at ht
   ·split at ht
    ·split at ht
     ·split at ht
      ·split at ht
       ·injection ht with ht
        rename_i hlen _
        rw [← ht]
        simp only [List.length_append, List.length_cons]
        exact ⟨by omega, hlen.2⟩
       ·cases ht
      ·cases ht
     ·cases ht
    ·cases ht
   ·cases ht
  ·cases ht
 have herr : ∀ x, partsP s = .error x → x ≠ 0 := fun x hx => by rcases parts_err hx with h | h | h <;> omega
 unfold verifyP
 generalize partsP s = X at hp hsz herr ⊢
 refine CallO.of_body Eq.tab Tryz.func54 rfl (nt := Tryz.f54.ntmps) rfl (by kernel_rfl) ?_
 (conv => whnf)
 refine ⟨⟨_, Tryz.func89, rfl, by kernel_rfl⟩, CallS.use (hp H) [] rfl rfl trivial ?_⟩
 rintro e H2 G' hle2 ⟨hout, hle2', rfl⟩
 cases X with
 | error x =>
  have hx := herr x rfl
  obtain rfl := hout
  (conv => whnf)
  refine br.of (fun h1 => ?_) (fun h1 => ?_) <;> (conv => whnf)
  ·exact ⟨rfl, hle2, rfl⟩
  ·simp only [bne_eq_false_iff_eq] at h1
   exact absurd h1 hx
 | ok tk =>
  have hsg := (hsz tk rfl).1
  have htg := (hsz tk rfl).2
  obtain ⟨A, n, c, B1, m1, d1, rfl, hb1, hb2⟩ := hout
  dsimp only
  (conv => whnf)
  refine br.of (fun h1 => ?_) (fun h1 => ?_) <;> (conv => whnf)
  ·have h1 := of_decide_eq_true h1
   rw [if_pos (by omega)]
   exact ⟨rfl, hle2, rfl⟩
  have h1 := of_decide_eq_false h1
  rw [if_neg (by omega)]
  refine WS.draw Eq.tab mixed (.take 0 (.take 1 (.take 2 (.take 3 (.take 4 (.alt 5 (.alt 6 (.alt 7 (.alt 8 (.take 9 (.take 10 .done)) .no) .no) .no) .no)))))) (by kernel_rfl) [] ?_
  (conv => whnf)
  repeat' (first
   | exact trivial
   | exact rfl
   | exact ⟨rfl, rfl, trivial⟩
   | exact ⟨_, Tryz.func85, rfl, by kernel_rfl⟩
   | exact ⟨_, Tryz.func90, rfl, by kernel_rfl⟩
   | exact Nat.le_of_ble_eq_true rfl
   | (intro g2 cap2 H6 hle6 hcap2 hrd2; rw [bs_cells] at hrd2; (conv => whnf))
   | (refine .inl ?_; intro g3 H7 hle7 hrd3; (conv => whnf))
   | (refine And.intro ?_ ?_ <;> (conv => whnf)))
  have hleA := (hle2.trans hle6).trans hle7
  refine CallS.use (Sha.code key [tk.signed] B (some ⟨g3, 0, none⟩) m d 1 1 H7 (hk.mono hleA) ⟨_, rfl, hrd3, .cons ⟨_, _, _, rfl, (BytesAt.lit (bs_size _) hrd2).mono hle7⟩ .nil⟩ hm (by decide) (by simp only [List.flatten_cons, List.flatten_nil, List.append_nil]; omega)) [] rfl rfl trivial ?_
  rintro e H8 G' hle8 ⟨⟨B8, m8, c8, rfl, hb8⟩, rfl⟩
  have hm8 := hb8.1
  simp only [List.flatten_cons, List.flatten_nil, List.append_nil] at hb8 hm8
  have l4 : (hmac key tk.signed).length = 32 := sha_length _
  have hleB := (hle6.trans hle7).trans hle8
  have hleC := hle2.trans hleB
  have hb2' := hb2.mono hleB
  have hb1' := hb1.mono hleB
  have heq := equal_ tk.tag (hmac key tk.signed) B1 m1 d1 B8 m8 c8 (by have := hb2.1; omega) (by omega) H8 hb2' hb8
  have hd : decide (tk.tag = hmac key tk.signed) = true ∨ decide (tk.tag = hmac key tk.signed) = false := by cases decide (tk.tag = hmac key tk.signed) <;> simp
  rcases hd with hd | hd
  ·rw [hd] at heq
   rw [if_pos (of_decide_eq_true hd)]
   (conv => whnf)
   repeat' (first
    | exact trivial
    | exact rfl
    | exact ⟨rfl, rfl, trivial⟩
    | exact ⟨_, Tryz.func90, rfl, by kernel_rfl⟩
    | (refine CallS.use heq [] rfl rfl trivial ?_; rintro e H9 G' hle9 ⟨rfl, rfl, rfl⟩; (conv => whnf))
    | exact ⟨⟨_, _, _, _, _, _, rfl, hb1', hb2'⟩, hleC, rfl⟩
    | (refine And.intro ?_ ?_ <;> (conv => whnf)))
  ·rw [hd] at heq
   rw [if_neg (of_decide_eq_false hd)]
   (conv => whnf)
   repeat' (first
    | exact trivial
    | exact rfl
    | exact ⟨rfl, rfl, trivial⟩
    | exact ⟨_, Tryz.func90, rfl, by kernel_rfl⟩
    | (refine CallS.use heq [] rfl rfl trivial ?_; rintro e H9 G' hle9 ⟨rfl, rfl, rfl⟩; (conv => whnf))
    | exact ⟨rfl, hleC, rfl⟩
    | (refine And.intro ?_ ?_ <;> (conv => whnf)))
end Go.Kx.Jw
namespace Go.Kx.Se
open Go.Proofs Go.Kx Go.RowKit Go.Kx.Js Go.Kx.Pr Go.Kx.Rt Go.Kx.Ob Go.Kx.Wo Go.Kx.Cl Go.Kx.Pa Go.Kx.Su Go.Kx.Jw
set_option maxRecDepth 20000
set_option linter.unusedSimpArgs false
namespace Sg
def T : Tab := [(25, { k := TK.st [(0, 9, 1), (1, 9, 1), (2, 9, 1), (3, 3, 1), (4, 9, 1), (5, 23, 3), (8, 3, 1), (9, 9, 1)], agg := true, size := 10, bytes := 144, zero := [Z.s, Z.s, Z.s, Z.i IntKind.i64, Z.s, Z.s, Z.s, Z.s, Z.i IntKind.i64, Z.s] }), (34, { k := TK.st [(0, 3, 1), (1, 4, 1), (2, 9, 1), (3, 31, 1), (4, 32, 1)], agg := true, size := 5, bytes := 80, zero := [Z.i IntKind.i64, Z.b, Z.s, Z.sl, Z.sl] }), (95, { k := TK.st [(0, 91, 2), (2, 55, 1), (3, 9, 1), (4, 55, 1)], agg := true, size := 5, bytes := 96, zero := [Z.s, Z.s, Z.sl, Z.s, Z.sl] }), (91, { k := TK.st [(0, 9, 1), (1, 9, 1)], agg := true, size := 2, bytes := 32, zero := [Z.s, Z.s] }), (5, { k := TK.int IntKind.u8, agg := false, size := 1, bytes := 1, zero := [Z.i IntKind.u8] }), (9, { k := TK.string, agg := false, size := 1, bytes := 16, zero := [Z.s] }), (23, { k := TK.st [(0, 9, 1), (1, 9, 1), (2, 9, 1)], agg := true, size := 3, bytes := 48, zero := [Z.s, Z.s, Z.s] }), (55, { k := TK.slice 5, agg := false, size := 1, bytes := 24, zero := [Z.sl] }), (35, { k := TK.int IntKind.i64, agg := false, size := 1, bytes := 8, zero := [Z.i IntKind.i64] }), (4, { k := TK.bool, agg := false, size := 1, bytes := 1, zero := [Z.b] }), (3, { k := TK.int IntKind.i64, agg := false, size := 1, bytes := 8, zero := [Z.i IntKind.i64] }), (31, { k := TK.slice 34, agg := false, size := 1, bytes := 24, zero := [Z.sl] }), (32, { k := TK.slice 52, agg := false, size := 1, bytes := 24, zero := [Z.sl] }), (52, { k := TK.st [(0, 9, 1), (1, 34, 5)], agg := true, size := 6, bytes := 96, zero := [Z.s, Z.i IntKind.i64, Z.b, Z.s, Z.sl, Z.sl] })]
set_option maxRecDepth 100000 in
theorem tab : TabOk Tryz.prog T := tabOk_mk (ts := [25, 34, 95, 91, 5, 9, 23, 55, 35, 4, 3, 31, 32, 52]) (by kernel_rfl)
end Sg
theorem print_cl {c : Clm} (h : RightC c) : printP (clJ c) = (⟨(wrJ (clJ c)).toArray⟩, 0) := by unfold printP; rw [if_pos (cl_right h)]
theorem sign0 (a b c : ByteArray) (n : Int) (t f i o : ByteArray) (k : Int) (r : ByteArray) (hk : -9223372036854775808 ≤ k ∧ k ≤ 9223372036854775807) (kid : ByteArray) (key : List UInt8) (B : Option Addr) (d : Nat) (hm : key.length ≤ 1000000) (H : Hp) (hb : BytesZ H B key.length key) :
  CallO Tryz.prog 20 [.si (.ag (cs10 a b c n t f i o k r)), pv (.string kid), pv (.slice B key.length d)] H [] fun e H' G' => e = .ret (.tu [.ce (.val (.string (csignP ⟨a, b, c, n, t, ⟨f, i, o⟩, k, r⟩ kid key).1)), .ce (.val (.int .i64 (csignP ⟨a, b, c, n, t, ⟨f, i, o⟩, k, r⟩ kid key).2))]) ∧ H.Le H' ∧ G' = [] := by
 have hv := value0 a b c n t f i o k r hk
 have hri := right_iff ⟨a, b, c, n, t, ⟨f, i, o⟩, k, r⟩
 unfold valP at hv
 unfold csignP
 generalize (⟨a, b, c, n, t, ⟨f, i, o⟩, k, r⟩ : Clm) = C at hv hri ⊢
 refine CallO.of_body Sg.tab Tryz.func20 rfl (nt := Tryz.f20.ntmps) rfl (by kernel_rfl) ?_
 (conv => whnf)
 refine ⟨⟨_, Tryz.func10, rfl, by kernel_rfl⟩, CallS.use (hv H) [] rfl rfl trivial ?_⟩
 rintro e H1 G' hle1 ⟨⟨k2, y2, t2, A2, n2, c2, B2, m2, d2, rfl, hj2⟩, hle1', rfl⟩
 cases hr : clRight C
 all_goals
  rw [hr] at hj2
  (conv => whnf)
 ·exact ⟨rfl, hle1, rfl⟩
 rw [if_neg (show ¬ (true = false) by decide)]
 have hR := hri.1 hr
 have hpr := print_ (clJ C) (cl_sm hR) (cl_wr6 hR) k2 y2 t2 A2 n2 c2 B2 m2 d2 H1 hj2
 rw [print_cl hR] at hpr
 have hl := cl_wrl hR
 refine ⟨⟨_, Tryz.func13, rfl, by kernel_rfl⟩, CallS.use hpr [] rfl rfl trivial ?_⟩
 rintro e H2 G' hle2 ⟨rfl, hle2', rfl⟩
 (conv => whnf)
 intro g cap H3 hle3 hcap hrd
 rw [bs_cells] at hrd
 rw [bs_size]
 (conv => whnf)
 have hleA := (hle1.trans hle2).trans hle3
 refine ⟨⟨_, Tryz.func50, rfl, by kernel_rfl⟩, CallS.use (Jw.signZ_ kid sType (wrJ (clJ C)) key (some ⟨g, 0, none⟩) cap B d (by omega) hm H3 (BytesAt.lit rfl hrd).z (hb.mono hleA)) [] rfl rfl trivial ?_⟩
 rintro e H4 G' hle4 ⟨rfl, hle4', rfl⟩
 (conv => whnf)
 exact ⟨rfl, hleA.trans hle4, rfl⟩
theorem signZ_ (C : Clm) (hk : -9223372036854775808 ≤ C.kind ∧ C.kind ≤ 9223372036854775807) (kid : ByteArray) (key : List UInt8) (B : Option Addr) (d : Nat) (hm : key.length ≤ 1000000) (H : Hp) (hb : BytesZ H B key.length key) :
  CallO Tryz.prog 20 [agC C, pv (.string kid), pv (.slice B key.length d)] H [] fun e H' G' => e = .ret (.tu [.ce (.val (.string (csignP C kid key).1)), .ce (.val (.int .i64 (csignP C kid key).2))]) ∧ H.Le H' ∧ G' = [] :=
 sign0 C.iss C.jti C.aud C.iat C.txn C.sub.fmt C.sub.id C.sub.own C.kind C.reason hk kid key B d hm H hb
theorem sign_ (C : Clm) (hk : -9223372036854775808 ≤ C.kind ∧ C.kind ≤ 9223372036854775807) (kid : ByteArray) (key : List UInt8) (B : Option Addr) (d : Nat) (hm : key.length ≤ 1000000) (H : Hp) (hb : BytesAt H B key.length key) :
  CallO Tryz.prog 20 [agC C, pv (.string kid), pv (.slice B key.length d)] H [] fun e H' G' => e = .ret (.tu [.ce (.val (.string (csignP C kid key).1)), .ce (.val (.int .i64 (csignP C kid key).2))]) ∧ H.Le H' ∧ G' = [] :=
 signZ_ C hk kid key B d hm H hb.z
def RCl (x : Except Int Clm) (e : SE) : Prop := match x with
 | .ok c => e = .ret (.tu [.ag (csC c), .ce (.val (.int .i64 0))])
 | .error x => e = .ret (.tu [.ag (csC clm0), .ce (.val (.int .i64 x))])
theorem verify_err {s : ByteArray} {key : List UInt8} {x : Int} (h : verifyP s key = .error x) : x ≠ 0 := by
 unfold verifyP at h
 split at h
 ·rename_i e he
  injection h with h
  rcases parts_err he with h1 | h1 | h1 <;> omega
 ·split at h
  ·injection h with h; omega
  ·split at h
   ·cases h
   ·injection h with h; omega
theorem verify_len {s : ByteArray} {key : List UInt8} {t : Tok} (h : verifyP s key = .ok t) : t.payload.length ≤ 16384 := by
 unfold verifyP at h
 split at h
 ·cases h
 ·rename_i t' ht
  split at h
  ·cases h
  split at h
  ·injection h with h
   subst h
   unfold partsP at ht
   split at ht
   ·cases ht
   split at ht
   ·unfold tok3 at ht
    split at ht
    ·split at ht
     ·split at ht
      ·split at ht
       ·rename_i hlen
        split at ht
        ·injection ht with ht
         rw [← ht]; exact hlen.1
        ·cases ht
       ·cases ht
      ·cases ht
     ·cases ht
    ·cases ht
   ·cases ht
  ·cases h
theorem read_ (s : ByteArray) (hs : s.size ≤ 1000000) (key : List UInt8) (B : Option Addr) (m d : Nat) (hm : m ≤ 1000000) (H : Hp) (hE : ErrH H) (hk : BytesAt H B m key) :
  CallO Tryz.prog 22 [pv (.string s), pv (.slice B m d)] H [] fun e H' G' => RCl (readP s key) e ∧ H.Le H' ∧ G' = [] := by
 have hv := verify_ s hs key B m d hm H hk
 have herr := fun x => verify_err (s := s) (key := key) (x := x)
 have hlen := fun t => verify_len (s := s) (key := key) (t := t)
 unfold readP
 generalize verifyP s key = X at hv herr hlen ⊢
 refine CallO.of_body Sg.tab Tryz.func22 rfl (nt := Tryz.f22.ntmps) rfl (by kernel_rfl) ?_
 (conv => whnf)
 refine ⟨⟨_, Tryz.func54, rfl, by kernel_rfl⟩, CallS.use hv [] rfl rfl trivial ?_⟩
 rintro e H2 G' hle2 ⟨hout, hle2', rfl⟩
 cases X with
 | error x =>
  have hx := herr x rfl
  obtain rfl := hout
  (conv => whnf)
  refine br.of (fun h1 => ?_) (fun h1 => ?_) <;> (conv => whnf)
  ·exact ⟨rfl, hle2, rfl⟩
  ·simp only [bne_eq_false_iff_eq] at h1
   exact absurd h1 hx
 | ok tk =>
  have hlp := hlen tk rfl
  obtain ⟨A, n, c, B1, m1, d1, rfl, hb1, hb2⟩ := hout
  have hn1 := hb1.1
  dsimp only
  (conv => whnf)
  refine br.of (fun h1 => ?_) (fun h1 => ?_) <;> (conv => whnf)
  ·have h1' : ¬ strEq tk.typ sType = true := by simpa using h1
   rw [if_pos (fun h => h1' (by rw [h]; exact str_refl _))]
   exact ⟨rfl, hle2, rfl⟩
  have h1' : strEq tk.typ sType = true := by simpa using h1
  rw [if_neg (fun h => h ((strEq_iff ..).1 h1'))]
  have hszJ := Ro.parse_sz tk.payload 4
  have hpar := Js.parse_ tk.payload A n c 4 H2 hb1.z (by omega)
  generalize parseP tk.payload 4 = X at hszJ hpar ⊢
  obtain ⟨J0, er, at0⟩ := X
  dsimp only at hszJ hpar ⊢
  have hsm := Ro.sm_of J0 (by omega)
  have hwr := Ro.wr_of J0
  refine ⟨⟨_, Tryz.func55, rfl, by kernel_rfl⟩, CallS.use hpar [] rfl rfl trivial ?_⟩
  rintro e H3 G' hle3 ⟨⟨k, y, t, A0, n0, c0, B0, m0, f0, rfl, hj⟩, rfl⟩
  have hle23 := hle2.trans hle3
  (conv => whnf)
  refine br.of (fun h2 => ?_) (fun h2 => ?_) <;> (conv => whnf)
  ·have h2' : er ≠ 0 := by simpa using h2
   rw [if_pos h2']
   exact ⟨rfl, hle23, rfl⟩
  have h2' : er = 0 := by simpa using h2
  rw [if_neg (fun h => h h2')]
  refine ⟨⟨_, Tryz.func13, rfl, by kernel_rfl⟩, CallS.use (print_ J0 hsm (by omega) k y t A0 n0 c0 B0 m0 f0 H3 hj) [] rfl rfl trivial ?_⟩
  rintro e H4 G' hle4 ⟨rfl, hle4', rfl⟩
  have hle24 := hle23.trans hle4
  (conv => whnf)
  have hconv : (A = none ∧ strOf tk.payload = ⟨#[]⟩) ∨ ∃ a, A = some a ∧ RdN H4 (some a) 0 (byteCells (strOf tk.payload)) := by
   cases A with
   | none => exact .inl ⟨rfl, by rw [hb1.2.1 rfl]; rfl⟩
   | some a => exact .inr ⟨a, rfl, by rw [← cells_str]; exact ((hb1.mono hle3).mono hle4).2.2 a rfl⟩
  rcases hconv with ⟨rfl, hso⟩ | ⟨a, rfl, hrd⟩
  ·(conv => whnf)
   rw [← hso]
   refine br.of (fun h3 => ?_) (fun h3 => ?_) <;> (conv => whnf)
   ·have h3' : ¬ strEq (printP J0).1 (strOf tk.payload) = true := by simpa using h3
    rw [if_pos (fun h => h3' (by rw [h]; exact str_refl _))]
    exact ⟨rfl, hle24, rfl⟩
   have h3' : strEq (printP J0).1 (strOf tk.payload) = true := by simpa using h3
   rw [if_neg (fun h => h ((strEq_iff ..).1 h3'))]
   refine ⟨⟨_, Tryz.func14, rfl, by kernel_rfl⟩, CallS.use (of_ J0 hsm (by omega) k y t A0 n0 c0 B0 m0 f0 H4 (hE.mono hle24) (hj.mono hle4)) [] rfl rfl trivial ?_⟩
   rintro e H5 G' hle5 ⟨hro, hle5', rfl⟩
   cases ho : ofP J0 with
   | none =>
    rw [ho] at hro
    obtain rfl := hro
    (conv => whnf)
    exact ⟨rfl, hle24.trans hle5, rfl⟩
   | some cc =>
    rw [ho] at hro
    obtain rfl := hro
    (conv => whnf)
    exact ⟨rfl, hle24.trans hle5, rfl⟩
  ·(conv => whnf)
   refine ⟨strOf tk.payload, (strOf_size _).trans hn1.symm, .inr hrd, ?_⟩
   (conv => whnf)
   refine br.of (fun h3 => ?_) (fun h3 => ?_) <;> (conv => whnf)
   ·have h3' : ¬ strEq (printP J0).1 (strOf tk.payload) = true := by simpa using h3
    rw [if_pos (fun h => h3' (by rw [h]; exact str_refl _))]
    exact ⟨rfl, hle24, rfl⟩
   have h3' : strEq (printP J0).1 (strOf tk.payload) = true := by simpa using h3
   rw [if_neg (fun h => h ((strEq_iff ..).1 h3'))]
   refine ⟨⟨_, Tryz.func14, rfl, by kernel_rfl⟩, CallS.use (of_ J0 hsm (by omega) k y t A0 n0 c0 B0 m0 f0 H4 (hE.mono hle24) (hj.mono hle4)) [] rfl rfl trivial ?_⟩
   rintro e H5 G' hle5 ⟨hro, hle5', rfl⟩
   cases ho : ofP J0 with
   | none =>
    rw [ho] at hro
    obtain rfl := hro
    (conv => whnf)
    exact ⟨rfl, hle24.trans hle5, rfl⟩
   | some cc =>
    rw [ho] at hro
    obtain rfl := hro
    (conv => whnf)
    exact ⟨rfl, hle24.trans hle5, rfl⟩
end Go.Kx.Se
namespace Go.Kx
open Go.RowKit
section
variable {P : Program}
inductive CK
 | b | s
 | i (k : IntKind)
def ckLit : CK → Value → Option Lit
 | .b, .bool x => some (.bool x)
 | .s, .string s => if s.size ≤ maxLen then some (.string s.data.toList) else none
 | .i k, .int k' n => if k' = k ∧ (Lit.int k n).wf = true then some (.int k n) else none
 | _, _ => none
def litsK : List CK → List Value → Option (List Lit)
 | [], [] => some []
 | c :: cs, v :: vs => (ckLit c v).bind fun l => (litsK cs vs).map fun r => l :: r
 | _, _ => none
def shapeFs (P : Program) (sh : TypeId → Option (List CK)) : List Field → Nat → Option (List CK)
 | [], _ => some []
 | f :: fs, off => if Nat.beq f.offset off then (sh f.type).bind fun ks => if Nat.beq ks.length (P.cellsOf f.type) then (shapeFs P sh fs (off + ks.length)).map fun r => ks ++ r else none else none
def shapeK (P : Program) : Nat → TypeId → Option (List CK)
 | 0, _ => none
 | d + 1, t => match P.underlying t with
  | some .bool => some [.b]
  | some (.int k) => some [.i k]
  | some .string => some [.s]
  | some (.struct fs) => if fs.all (·.name != "_") then (shapeFs P (shapeK P d) fs.toList 0).bind fun ks => if Nat.beq ks.length (P.cellsOf t) then some ks else none else none
  | _ => none
theorem litsK_len : ∀ {ks : List CK} {vs : List Value} {la : List Lit}, litsK ks vs = some la → vs.length = ks.length
 | [], [], _, _ => rfl
 | [], _ :: _, _, h => by simp [litsK] at h
 | _ :: _, [], _, h => by simp [litsK] at h
 | c :: cs, v :: vs, la, h => by
  unfold litsK at h
  simp only [Option.bind_eq_some_iff, Option.map_eq_some_iff] at h
  obtain ⟨l, _, r, h2, _⟩ := h
  simp [litsK_len h2]
theorem litsK_split : ∀ {k1 k2 : List CK} {vs : List Value} {la : List Lit}, litsK (k1 ++ k2) vs = some la → ∃ l1 l2, litsK k1 (vs.take k1.length) = some l1 ∧ litsK k2 (vs.drop k1.length) = some l2 ∧ la = l1 ++ l2
 | [], k2, vs, la, h => ⟨[], la, by simp [litsK], by simpa using h, rfl⟩
 | c :: k1, k2, [], la, h => by simp [litsK] at h
 | c :: k1, k2, v :: vs, la, h => by
  simp only [List.cons_append, litsK, Option.bind_eq_some_iff, Option.map_eq_some_iff] at h
  obtain ⟨l, h1, r, h2, rfl⟩ := h
  obtain ⟨l1, l2, h3, h4, rfl⟩ := litsK_split h2
  refine ⟨l :: l1, l2, ?_, by simpa using h4, rfl⟩
  simp [litsK, h1, h3]
theorem bytes_ext {a b : ByteArray} (h : a.data.toList = b.data.toList) : a = b := by
 have := Array.toList_inj.1 h
 cases a; cases b; simpa using this
theorem ckLit_inj {c : CK} {u v : Value} {l : Lit} (h1 : ckLit c u = some l) (h2 : ckLit c v = some l) : u = v := by
 cases c <;> cases u <;> simp only [ckLit] at h1 <;> first | (cases h1; done) | skip
 all_goals cases v <;> simp only [ckLit] at h2 <;> first | (cases h2; done) | skip
 ·injection h1 with h1; injection h2 with h2; rw [← h1] at h2; injection h2 with h2; rw [h2]
 ·split at h1
  ·split at h2
   ·injection h1 with h1; injection h2 with h2
    rw [← h1] at h2
    injection h2 with h2
    exact congrArg Value.string (bytes_ext h2.symm)
   ·cases h2
  ·cases h1
 ·split at h1
  ·rename_i e1
   split at h2
   ·rename_i e2
    injection h1 with h1; injection h2 with h2
    rw [← h1] at h2
    injection h2 with _ h2
    rw [e1.1, e2.1, h2]
   ·cases h2
  ·cases h1
theorem litsK_inj : ∀ {ks : List CK} {us vs : List Value} {l : List Lit}, litsK ks us = some l → litsK ks vs = some l → us = vs
 | [], [], [], _, _, _ => rfl
 | [], _ :: _, _, _, h, _ => by simp [litsK] at h
 | [], [], _ :: _, _, _, h => by simp [litsK] at h
 | _ :: _, [], _, _, h, _ => by simp [litsK] at h
 | _ :: _, _ :: _, [], _, _, h => by simp [litsK] at h
 | c :: ks, u :: us, v :: vs, l, h1, h2 => by
  simp only [litsK, Option.bind_eq_some_iff, Option.map_eq_some_iff] at h1 h2
  obtain ⟨a, a1, r, a2, rfl⟩ := h1
  obtain ⟨b, b1, r2, b2, h⟩ := h2
  injection h with h3 h4
  subst h3 h4
  rw [ckLit_inj a1 b1, litsK_inj a2 b2]
theorem shapeFs_lits {sh : TypeId → Option (List CK)} {kl : TypeId → List Value → Option (List Lit)} (hsh : ∀ t ks vs la, sh t = some ks → litsK ks vs = some la → kl t vs = some la) (cs : List Value) : ∀ (fs : List Field) (off : Nat) (ks : List CK) (la : List Lit), shapeFs P sh fs off = some ks → litsK ks (cs.drop off) = some la →
  ∃ al, (fs.mapM fun f => kl f.type ((cs.drop f.offset).take (P.cellsOf f.type))) = some al ∧ al.flatten = la
 | [], off, ks, la, h1, h2 => by
  simp only [shapeFs, Option.some.injEq] at h1
  subst h1
  refine ⟨[], by simp, ?_⟩
  cases hd : cs.drop off with
  | nil => rw [hd] at h2; simp only [litsK, Option.some.injEq] at h2; rw [← h2]; rfl
  | cons a r => rw [hd] at h2; simp [litsK] at h2
 | f :: fs, off, ks, la, h1, h2 => by
  unfold shapeFs at h1
  split at h1
  ·rename_i ho
   have ho := Nat.eq_of_beq_eq_true ho
   simp only [Option.bind_eq_some_iff] at h1
   obtain ⟨k1, hk1, h1⟩ := h1
   split at h1
   ·rename_i hl
    have hl := Nat.eq_of_beq_eq_true hl
    simp only [Option.map_eq_some_iff] at h1
    obtain ⟨k2, hk2, rfl⟩ := h1
    obtain ⟨l1, l2, h3, h4, rfl⟩ := litsK_split h2
    rw [List.drop_drop] at h4
    obtain ⟨al, ha, hf⟩ := shapeFs_lits hsh cs fs (off + k1.length) k2 l2 hk2 h4
    have h5 := hsh f.type k1 _ l1 hk1 h3
    rw [hl, ← ho] at h5
    refine ⟨l1 :: al, ?_, by simp [hf]⟩
    rw [List.mapM_cons, h5, ha]
    rfl
   ·cases h1
  ·cases h1
theorem shapeK_lits : ∀ (d : Nat) (t : TypeId) (ks : List CK) (vs : List Value) (la : List Lit), shapeK P d t = some ks → litsK ks vs = some la → P.keyLits d t vs = some la
 | 0, _, _, _, _, h, _ => by simp [shapeK] at h
 | d + 1, t, ks, vs, la, h, h2 => by
  unfold shapeK at h
  split at h
  ·rename_i hu
   injection h with h; subst h
   have hl := litsK_len h2
   match vs, hl with
   | [v], _ =>
    cases v <;> simp [litsK, ckLit] at h2
    simp [Program.keyLits, hu, h2]
  ·rename_i k hu
   injection h with h; subst h
   have hl := litsK_len h2
   match vs, hl with
   | [v], _ =>
    cases v with
    | int k' n =>
     by_cases hc : k' = k ∧ (Lit.int k n).wf = true
     ·simp only [litsK, ckLit, if_pos hc, Option.bind_some, Option.map_some] at h2
      unfold Program.keyLits
      rw [hu]
      simp only []
      rw [if_pos hc]; exact h2
     ·simp [litsK, ckLit, if_neg hc] at h2
    | _ => simp [litsK, ckLit] at h2
  ·rename_i hu
   injection h with h; subst h
   have hl := litsK_len h2
   match vs, hl with
   | [v], _ =>
    cases v with
    | string s =>
     by_cases hc : s.size ≤ maxLen
     ·simp only [litsK, ckLit, if_pos hc, Option.bind_some, Option.map_some] at h2
      unfold Program.keyLits
      rw [hu]
      simp only []
      rw [if_pos hc]; exact h2
     ·simp [litsK, ckLit, if_neg hc] at h2
    | _ => simp [litsK, ckLit] at h2
  ·rename_i fs hu
   split at h
   ·rename_i hn
    simp only [Option.bind_eq_some_iff] at h
    obtain ⟨ks', hk, h⟩ := h
    split at h
    ·rename_i hl
     have hl := Nat.eq_of_beq_eq_true hl
     injection h with h; subst h
     have hlen := litsK_len h2
     obtain ⟨al, ha, hf⟩ := shapeFs_lits (P := P) (kl := P.keyLits d) (fun t ks vs la a b => shapeK_lits d t ks vs la a b) vs fs.toList 0 ks' la hk (by simpa using h2)
     unfold Program.keyLits
     rw [hu]
     simp only []
     rw [if_pos ⟨by omega, hn⟩, ha]
     simp [hf]
    ·cases h
   ·cases h
  ·cases h
theorem QO.agg {o : Oper} {op : BinOp} {t ty : TypeId} {x y : Operand} (ho : o.op = .binOp op t x y ty) {F : Fr} {H : Hp} {G : List SB} {K : SV → Prop} (xs ys : List Value) (ks : List CK)
  (hx : evX x F fun sv => sv = .si (.ag (xs.map SC.val))) (hy : evX y F fun sv => sv = .si (.ag (ys.map SC.val)))
  (hg : P.eqGuardType P.depth t = false) (hk : P.keyTypeAt 8 t = true) (hs : shapeK P 8 t = some ks) (fx : (Value.agg xs.toArray).formed P t = true) (fy : (Value.agg ys.toArray).formed P t = true)
  (lx : (litsK ks xs).isSome = true) (ly : (litsK ks ys).isSome = true)
  (h : ∀ r : Bool, (r = true ↔ xs = ys) → (op = .eql ∧ K (pv (.bool r))) ∨ (op = .neq ∧ K (pv (.bool (!r))))) : QO P o F H G K := by
 obtain ⟨sx, rfl, hxv⟩ := evX_ok hx
 obtain ⟨sy, rfl, hyv⟩ := evX_ok hy
 obtain ⟨la, hla⟩ := Option.isSome_iff_exists.1 lx
 obtain ⟨lb, hlb⟩ := Option.isSome_iff_exists.1 ly
 have ka := shapeK_lits 8 t ks xs la hs hla
 have kb := shapeK_lits 8 t ks ys lb hs hlb
 have hall : ∀ (zs : List Value) ρ us, All2 (SC.Is ρ) (zs.map SC.val) us → us = zs := by
  intro zs
  induction zs with
  | nil => intro ρ us hu; cases hu; rfl
  | cons z zs ih => intro ρ us hu; cases hu with | cons h1 h2 => rw [ih ρ _ h2]; obtain rfl := h1; rfl
 have hval : ∀ (zs : List Value) ρ v, SV.Is ρ (.si (.ag (zs.map SC.val))) v → v = .agg zs.toArray := by
  rintro zs ρ v ⟨us, rfl, hu⟩
  rw [hall zs ρ us hu]
 have hr : ∀ w : World, ∃ r : Bool, (Op.equalIn 10000 t (.agg xs.toArray) (.agg ys.toArray)).run P w = .ok r w ∧ (r = true ↔ la = lb) := fun w =>
  run_equalIn_deep 9992 8 t hk w 8 8 _ _ la lb fx fy (by simpa [Value.cells] using ka) (by simpa [Value.cells] using kb)
 have hiff : la = lb ↔ xs = ys := ⟨fun e => litsK_inj hla (by rw [e]; exact hlb), fun e => by subst e; rw [hla] at hlb; injection hlb⟩
 have hone : ∀ w w' : World, ∀ r r' : Bool, (r = true ↔ la = lb) → (r' = true ↔ la = lb) → r = r' := fun w w' r r' h1 h2 => by
  cases r <;> cases r' <;> simp_all
 have hb : ∃ b : Bool, (b = true ↔ la = lb) := by
  by_cases e : la = lb
  ·exact ⟨true, by simp [e]⟩
  ·exact ⟨false, by simp [e]⟩
 obtain ⟨b, hb⟩ := hb
 rcases h b (hb.trans hiff) with ⟨rfl, hK⟩ | ⟨rfl, hK⟩
 ·refine ⟨_, hK, fun ρ a wc hf hw => ⟨_, rfl, fun w _ => ?_⟩⟩
  have e1 := hval xs ρ _ (hxv ρ a hf)
  have e2 := hval ys ρ _ (hyv ρ a hf)
  obtain ⟨r, hr1, hr2⟩ := hr w
  obtain rfl := hone w w r b hr2 hb
  have e : execOp a.eval o = (do pure (.value (← ((do eqGuard .eql t x y (a.eval x) (a.eval y); binOp .eql t (a.eval x) (a.eval y)) : Sem Value)))) := by simp only [execOp, ho]
  rw [e, e1, e2]
  simp only [Sem.run_bind, run_eqGuard_agg w .eql t x y _ _ hg, Result.andThen_ok, run_eql_struct, hr1, Sem.run_pure]
 ·refine ⟨_, hK, fun ρ a wc hf hw => ⟨_, rfl, fun w _ => ?_⟩⟩
  have e1 := hval xs ρ _ (hxv ρ a hf)
  have e2 := hval ys ρ _ (hyv ρ a hf)
  obtain ⟨r, hr1, hr2⟩ := hr w
  obtain rfl := hone w w r b hr2 hb
  have e : execOp a.eval o = (do pure (.value (← ((do eqGuard .neq t x y (a.eval x) (a.eval y); binOp .neq t (a.eval x) (a.eval y)) : Sem Value)))) := by simp only [execOp, ho]
  rw [e, e1, e2]
  simp only [Sem.run_bind, run_eqGuard_agg w .neq t x y _ _ hg, Result.andThen_ok, run_neq_struct, hr1, Sem.run_pure]
theorem freeze_cells {w : World} {g : Nat} {cur : Array Value} {et : TypeId} {z : Nat × Nat} (hg : w.heap[g]? = some (.cells cur et z)) (n m : Nat) :
  (w.freeze ⟨g, n, none⟩ m).os = w.os ∧ (w.freeze ⟨g, n, none⟩ m).tape = w.tape ∧ (w.freeze ⟨g, n, none⟩ m).output = w.output ∧ (w.freeze ⟨g, n, none⟩ m).heap.size = w.heap.size ∧ (∀ b, b ≠ g → (w.freeze ⟨g, n, none⟩ m).heap[b]? = w.heap[b]?) ∧ ∃ z', (w.freeze ⟨g, n, none⟩ m).heap[g]? = some (.cells cur et z') := by
 unfold World.freeze
 split
 ·exact ⟨rfl, rfl, rfl, rfl, fun _ _ => rfl, _, hg⟩
 ·refine ⟨rfl, rfl, rfl, by simp, fun b hb => ?_, ?_⟩
  ·simp [Array.getElem?_modify, Ne.symm hb]
  ·obtain ⟨lo, hi⟩ := z
   simp [Array.getElem?_modify, hg]
theorem run_convert_own {w : World} {t e et : TypeId} {g o n cap : Nat} {cur : Array Value} {z : Nat × Nat} (ht : P.underlying t = some (.slice e)) (he : P.underlying e = some (.int .u8)) (hg : w.heap[g]? = some (.cells cur et z)) :
  (convert t t (.slice (some ⟨g, o, none⟩) n cap)).run P w = .ok (.slice (some ⟨g, o, none⟩) n cap) (w.freeze ⟨g, cur.size, none⟩ 1) := by
 have hsh : w.shape? g = some (et, cur.size) := by
  unfold World.shape?
  rw [hg]
 simp [convert, run_underlying ht, run_underlying he, markStringish, hsh]
theorem LO.convOwn {o : Oper} {t e et : TypeId} {x : Operand} (ho : o.op = .convert t t x) {F : Fr} {H : Hp} {G : List SB} {K : SV → Hp → List SB → Prop} {Kp : List PanicEntry → Hp → List SB → Prop} (k : Nat) {n : Nat} {xs : List Value}
  (hx : evX x F fun sv => sv = .si (.ce (.self k))) (hk : G[k]? = some (.row et 1 n xs)) (hn : 0 < n) (ht : P.underlying t = some (.slice e)) (he : P.underlying e = some (.int .u8))
  (h : ∀ a c H', H.Le H' → RdN H' (some a) 0 xs → K (pv (.slice (some a) n c)) H' (G.set k .dead)) : LO P o F H G K Kp := by
 intro w0 M hgd H0 ρ a w hs hf
 obtain ⟨sx, rfl, hxv⟩ := evX_ok hx
 have hv : ρ[k]? = some (a.eval x) := hxv ρ a hf
 obtain ⟨r, hr, hok⟩ := hs.at hk
 obtain rfl : r = a.eval x := by rw [hr] at hv; injection hv
 rcases hok.2 with ⟨_, h0⟩ | ⟨g, off, cap, cur, hre, hg, hnc, hcm, hcs, htk⟩
 ·omega
 have hblk : blkAt ρ G k = some g := by rw [blkAt_eq hk hr, hre]; rfl
 obtain ⟨f1, f2, f3, f4, f5, z', f6⟩ := freeze_cells hg cur.size 1
 generalize hw' : w.freeze ⟨g, cur.size, none⟩ 1 = w' at *
 have hrun : (execOp a.eval o).run P w = .ok (.value (.slice (some ⟨g, off, none⟩) n cap)) w' := by
  have := run_convert_own (n := n) (cap := cap) (o := off) ht he hg
  rw [hw'] at this
  simp [execOp, ho, hre, this]
 have hout : H.Out g := (hs.own k g hblk).2
 have hst : St w0 M H0 ρ H (G.set k .dead) w' := hs.turn hk hr (g := g) (by rw [hre]; rfl) f1 f2 f3 (by omega) (fun b _ hb => f5 b hb) trivial (.inr rfl)
 have hnk : ∀ j y, blkAt ρ (G.set k .dead) j = some y → y ≠ g := fun j y hj e => by
  subst e
  obtain ⟨s1, r1, h1, h2, h3⟩ := blkAt_some hj
  have hkl := (List.getElem?_eq_some_iff.1 hk).1
  by_cases hjk : k = j
  ·subst hjk
   rw [List.getElem?_set_self hkl] at h1
   injection h1 with h1; subst h1
   simp [SB.blk] at h3
  ·rw [List.getElem?_set_ne hjk] at h1
   exact hjk (hs.inj k j y hblk (by rw [blkAt_eq h1 h2]; exact h3))
 have hcell : ∀ b i v, H.putAt g off xs b i = some v → H b i = some v ∨ (b = g ∧ w'.cell? ⟨g, i, none⟩ = some v) := fun b i v ev => by
  rcases Hp.putAt_inv ev with e1 | ⟨rfl, e0, e1⟩
  ·exact .inl e1
  ·refine .inr ⟨rfl, ?_⟩
   rw [Nat.mul_one] at htk
   rw [← htk, List.getElem?_take] at e1
   split at e1
   ·simp only [World.cell?, f6]
    rw [List.getElem?_drop, show off + (i - off) = i by omega] at e1
    simpa using e1
   ·cases e1
 have hst2 : St w0 M H0 ρ (H.putAt g off xs) (G.set k .dead) w' := by
  refine ⟨hst.os, hst.tape, hst.output, hst.size, hst.old, hst.hle.trans (Hp.putAt_le hout), ?_, ?_, hst.len, hst.ok, ?_, hst.inj⟩
  ·intro b i v ev
   rcases hcell b i v ev with e1 | ⟨rfl, e1⟩
   ·exact hst.hin b i v e1
   ·exact e1
  ·intro b i v ev
   rcases hcell b i v ev with e1 | ⟨rfl, e1⟩
   ·exact hst.hnew b i v e1
   ·exact .inr (hs.own k b hblk).1
  ·intro j y hj
   obtain ⟨h1, h2⟩ := hst.own j y hj
   refine ⟨h1, fun i => ?_⟩
   cases ev : H.putAt g off xs y i with
   | none => rfl
   | some v =>
    rcases hcell y i v ev with e1 | ⟨e1, _⟩
    ·rw [h2 i] at e1; cases e1
    ·exact absurd e1 (hnk j y hj)
 rw [hrun]
 exact ⟨pv (.slice (some ⟨g, off, none⟩) n cap), ρ, H.putAt g off xs, G.set k .dead, hst2, .refl _, rfl, Hp.putAt_le hout, h ⟨g, off, none⟩ cap _ (Hp.putAt_le hout) Hp.putAt_rd⟩
end
end Go.Kx
