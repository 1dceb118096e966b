/- Events as claims: the kinds' names; which claims are right. No condition of its own. -/
import Derived.Test.YtdknmcaemebgfaaGreatDoorMX14
namespace Go.Kx.Se
open Go.Proofs Go.Kx Go.RowKit Go.Kx.Js Go.Kx.Pr Go.Kx.Rt Go.Kx.Ob Go.Kx.Wo Go.Kx.Cl Go.Kx.Pa Go.Kx.Su
set_option maxRecDepth 20000
set_option linter.unusedSimpArgs false
def T : Tab := [(25, { k := TK.st [(0, 9, 1), (1, 9, 1), (2, 9, 1), (3, 3, 1), (4, 9, 1), (5, 23, 3), (8, 3, 1), (9, 9, 1)], agg := true, size := 10, bytes := 144, zero := [Z.s, Z.s, Z.s, Z.i IntKind.i64, Z.s, Z.s, Z.s, Z.s, Z.i IntKind.i64, Z.s] }), (23, { k := TK.st [(0, 9, 1), (1, 9, 1), (2, 9, 1)], agg := true, size := 3, bytes := 48, zero := [Z.s, Z.s, Z.s] }), (9, { k := TK.string, agg := false, size := 1, bytes := 16, zero := [Z.s] }), (52, { k := TK.st [(0, 9, 1), (1, 34, 5)], agg := true, size := 6, bytes := 96, zero := [Z.s, Z.i IntKind.i64, Z.b, Z.s, Z.sl, Z.sl] }), (34, { k := TK.st [(0, 3, 1), (1, 4, 1), (2, 9, 1), (3, 31, 1), (4, 32, 1)], agg := true, size := 5, bytes := 80, zero := [Z.i IntKind.i64, Z.b, Z.s, Z.sl, Z.sl] }), (35, { k := TK.int IntKind.i64, agg := false, size := 1, bytes := 8, zero := [Z.i IntKind.i64] }), (4, { k := TK.bool, agg := false, size := 1, bytes := 1, zero := [Z.b] }), (3, { k := TK.int IntKind.i64, agg := false, size := 1, bytes := 8, zero := [Z.i IntKind.i64] }), (32, { k := TK.slice 52, agg := false, size := 1, bytes := 24, zero := [Z.sl] }), (55, { k := TK.slice 5, agg := false, size := 1, bytes := 24, zero := [Z.sl] }), (91, { k := TK.st [(0, 9, 1), (1, 9, 1)], agg := true, size := 2, bytes := 32, zero := [Z.s, Z.s] }), (95, { k := TK.st [(0, 91, 2), (2, 55, 1), (3, 9, 1), (4, 55, 1)], agg := true, size := 5, bytes := 96, zero := [Z.s, Z.s, Z.sl, Z.s, Z.sl] }), (62, { k := TK.slice 9, agg := false, size := 1, bytes := 24, zero := [Z.sl] }), (31, { k := TK.slice 34, agg := false, size := 1, bytes := 24, zero := [Z.sl] }), (5, { k := TK.int IntKind.u8, agg := false, size := 1, bytes := 1, zero := [Z.i IntKind.u8] })]
set_option maxRecDepth 100000 in
theorem tab : TabOk Tryz.prog T := tabOk_mk (ts := [25, 23, 9, 52, 34, 35, 4, 3, 32, 55, 91, 95, 62, 31, 5]) (by kernel_rfl)
theorem mixed : Tryz.prog.follows .mixedOrders = true := by kernel_rfl
def sfxN : List Value := [.string (⟨#[99, 97, 101, 112, 47, 101, 118, 101, 110, 116, 45, 116, 121, 112, 101, 47, 115, 101, 115, 115, 105, 111, 110, 45, 114, 101, 118, 111, 107, 101, 100]⟩ : ByteArray), .string (⟨#[99, 97, 101, 112, 47, 101, 118, 101, 110, 116, 45, 116, 121, 112, 101, 47, 99, 114, 101, 100, 101, 110, 116, 105, 97, 108, 45, 99, 104, 97, 110, 103, 101]⟩ : ByteArray), .string (⟨#[114, 105, 115, 99, 47, 101, 118, 101, 110, 116, 45, 116, 121, 112, 101, 47, 97, 99, 99, 111, 117, 110, 116, 45, 100, 105, 115, 97, 98, 108, 101, 100]⟩ : ByteArray), .string (⟨#[114, 105, 115, 99, 47, 101, 118, 101, 110, 116, 45, 116, 121, 112, 101, 47, 97, 99, 99, 111, 117, 110, 116, 45, 101, 110, 97, 98, 108, 101, 100]⟩ : ByteArray), .string (⟨#[99, 97, 101, 112, 47, 101, 118, 101, 110, 116, 45, 116, 121, 112, 101, 47, 116, 111, 107, 101, 110, 45, 99, 108, 97, 105, 109, 115, 45, 99, 104, 97, 110, 103, 101]⟩ : ByteArray), .string (⟨#[115, 115, 101, 47, 101, 118, 101, 110, 116, 45, 116, 121, 112, 101, 47, 118, 101, 114, 105, 102, 105, 99, 97, 116, 105, 111, 110]⟩ : ByteArray)]
abbrev frontB := (⟨#[104, 116, 116, 112, 115, 58, 47, 47, 115, 99, 104, 101, 109, 97, 115, 46, 111, 112, 101, 110, 105, 100, 46, 110, 101, 116, 47, 115, 101, 99, 101, 118, 101, 110, 116, 47]⟩ : ByteArray)
theorem names0 (H : Hp) : CallO Tryz.prog 59 [] H [] fun e H' G' => e = .ret (.si (.ce (.self 0))) ∧ H.Le H' ∧ G' = [.row 9 1 6 (allN.map Value.string)] := by
 refine CallO.of_body tab Tryz.func59 rfl (nt := Tryz.f59.ntmps) rfl (by kernel_rfl) ?_
 (conv => whnf)
 refine ⟨by decide, .inl ?_⟩
 intro g H2 hle hrd
 (conv => whnf)
 refine WS.nilRow 1 9 1 rfl ?_
 (conv => whnf)
 generalize hA : (some ⟨g, 0, none⟩ : Option Addr) = A at *
 have hv : VAt H2 A 6 sfxN := by
  refine ⟨rfl, ?_, ?_⟩
  ·intro e
   rw [← hA] at e
   cases e
  ·intro a e
   rw [← e]
   exact hrd
 refine WS.loop (fun k' F H3 G => ∃ i : Nat, i ≤ 6 ∧ k' = 6 - i ∧ F = [(1, .si (.ce (.self 0))), (4, pv (.slice A 6 6)), (5, pv (.int .i64 6)), (6, pv (.int .i64 i))] ∧ H2.Le H3 ∧ G = [.row 9 1 i ((allN.take i).map Value.string)]) 7 ?_ ?_
 ·refine ⟨6, by omega, _, _, [0], ⟨0, by omega, rfl, rfl, .refl _, rfl⟩, ?_⟩
  exact ⟨rfl, ⟨rfl, trivial⟩, rfl, rfl, rfl, rfl, trivial⟩
 rintro k' F H3 G hle3 ⟨i, hi, rfl, rfl, hle4, rfl⟩
 refine codeL.go tab ?_
 (conv => whnf)
 refine br.of (fun h7 => ?_) (fun h7 => ?_) <;> (conv => whnf)
 ·have h7 := of_decide_eq_true h7
  obtain ⟨x, hx, hfx, hsz⟩ : ∃ x : ByteArray, sfxN[i]? = some (.string x) ∧ allN[i]? = some (frontB ++ x) ∧ x.size ≤ 100 := by
   obtain rfl | rfl | rfl | rfl | rfl | rfl : i = 0 ∨ i = 1 ∨ i = 2 ∨ i = 3 ∨ i = 4 ∨ i = 5 := by omega
   all_goals exact ⟨_, rfl, by decide +kernel, by decide +kernel⟩
  have htake : (allN.take (i + 1)).map Value.string = (allN.take i).map Value.string ++ [.string (frontB ++ x)] := by rw [List.take_add_one, hfx, List.map_append]; rfl
  have hl : ((allN.take i).map Value.string).length = i := by rw [List.length_map, List.length_take]; show min i 6 = i; omega
  refine ⟨⟨by omega, by omega⟩, hv.addr (by decide), ?_⟩
  (conv => whnf)
  refine ⟨_, (hv.mono hle4).get hx (by show (i : Int).toNat * 1 = i; omega), ?_⟩
  (conv => whnf)
  have hfs : frontB.size ≤ 40 := by decide
  refine ⟨by show frontB.size + x.size ≤ _; omega, ?_⟩
  (conv => whnf)
  refine ⟨by decide, .inl ?_⟩
  intro ga H5 hle5 hrd2
  (conv => whnf)
  refine ⟨_, rfl, hrd2, fun u hu => by rcases List.mem_singleton.1 hu with rfl; rfl, ?_⟩
  (conv => whnf)
  refine ⟨by show (i + 1) * 17 ≤ _; omega, ?_⟩
  (conv => whnf)
  rw [wrap64 (x := (i : Int) + 1) (by omega) (by omega)]
  refine ⟨6 - (i + 1), by omega, _, _, [1], ⟨i + 1, by omega, rfl, rfl, hle4.trans hle5, rfl⟩, ?_⟩
  refine ⟨rfl, ⟨?_, trivial⟩, rfl, rfl, rfl, rfl, trivial⟩
  rw [htake]; rfl
 ·have h7 := of_decide_eq_false h7
  obtain rfl : i = 6 := by omega
  exact ⟨rfl, hle.trans hle4, rfl⟩
theorem names_ (H : Hp) : CallO Tryz.prog 59 [] H [] fun e H' G' => RetV (bL allN) e H' ∧ H.Le H' ∧ G' = [] := by
 refine CallO.sub (CallO.frz (K := fun e H' G' => RetV (bL allN) e H' ∧ H.Le H' ∧ G' = [.dead]) (names0 H) ?_) ?_
 ·rintro e H' G' hle ⟨rfl, hle1, rfl⟩
  refine ⟨0, 9, 1, _, _, rfl, fun h0 => absurd h0 (by decide), fun x H2 hle2 hfr => ?_⟩
  obtain ⟨B, cc, rfl, hv⟩ := VAt.of_frozen (by simp [allN]) hfr
  exact ⟨⟨B, _, cc, rfl, by rw [stC_bL]; exact hv⟩, hle1.trans hle2, rfl⟩
 ·rintro e H' G' hle ⟨⟨B, m, cc, rfl, hv⟩, hle1, rfl⟩
  exact ⟨_, [], [], rfl, trivial, rfl, ⟨B, m, cc, rfl, hv⟩, hle1, rfl⟩
theorem name_ (k : Int) (h0 : -9223372036854775808 ≤ k) (h1 : k ≤ 9223372036854775807) (H : Hp) : CallO Tryz.prog 27 [pv (.int .i64 k)] H [] fun e H' G' => e = .ret (.tu [.ce (.val (.string (nameK k))), .ce (.val (.bool (decide (1 ≤ k) && decide (k ≤ 6))))]) ∧ H.Le H' ∧ G' = [] := by
 unfold nameK
 refine CallO.of_body tab Tryz.func27 rfl (nt := Tryz.f27.ntmps) rfl (by kernel_rfl) ?_
 (conv => whnf)
 refine br.of (fun h2 => ?_) (fun h2 => ?_) <;> (conv => whnf)
 ·have h2 := of_decide_eq_true h2
  rw [if_neg (by omega), decide_eq_false (show ¬ 1 ≤ k by omega), Bool.false_and]
  exact ⟨rfl, .refl _, rfl⟩
 have h2 := of_decide_eq_false h2
 rw [decide_eq_true (show 1 ≤ k by omega), Bool.true_and]
 refine br.of (fun h3 => ?_) (fun h3 => ?_) <;> (conv => whnf)
 ·have h3 := of_decide_eq_true h3
  rw [if_neg (by omega), decide_eq_false (show ¬ k ≤ 6 by omega)]
  exact ⟨rfl, .refl _, rfl⟩
 have h3 := of_decide_eq_false h3
 rw [if_pos (by omega), decide_eq_true (show k ≤ 6 by omega)]
 refine ⟨⟨_, Tryz.func59, rfl, by kernel_rfl⟩, CallS.use (names_ H) [] rfl rfl trivial ?_⟩
 rintro e H2 G' hle ⟨⟨B, m, cc, rfl, hv⟩, hle1, rfl⟩
 have hm : m = 6 := by have := hv.1; rw [stC_len] at this; exact this
 subst hm
 rw [stC_bL] at hv
 (conv => whnf)
 rw [wrap64 (x := k - 1) (by omega) (by omega)]
 refine ⟨⟨by omega, by omega⟩, hv.addr (by decide), ?_⟩
 (conv => whnf)
 have hget : (allN.map Value.string)[(k - 1).toNat]? = some (.string (allN.getD (k - 1).toNat ⟨#[]⟩)) := by
  have : (k - 1).toNat < allN.length := by show _ < 6; omega
  rw [List.getElem?_map, List.getD_eq_getElem?_getD, List.getElem?_eq_getElem this]; rfl
 refine ⟨_, hv.get hget (by show (k - 1).toNat * 1 = _; omega), ?_⟩
 (conv => whnf)
 exact ⟨rfl, hle1, rfl⟩
def ixT (s : ByteArray) : List ByteArray → Int
 | [] => -1
 | t :: r => if s = t then 0 else if ixT s r < 0 then -1 else ixT s r + 1
theorem ixT_ge (s : ByteArray) : ∀ l, -1 ≤ ixT s l ∧ ixT s l < l.length
 | [] => ⟨by simp [ixT], by simp [ixT]⟩
 | t :: r => by
  obtain ⟨h1, h2⟩ := ixT_ge s r
  unfold ixT
  simp only [List.length_cons]
  split
  ·omega
  ·split <;> omega
theorem ixT_front (s : ByteArray) : ∀ (l r : List ByteArray), (∀ t ∈ l, s ≠ t) → ixT s (l ++ r) = if ixT s r < 0 then -1 else ixT s r + l.length
 | [], r, _ => by
  have := ixT_ge s r
  simp only [List.nil_append, List.length_nil]
  split <;> omega
 | t :: l, r, h => by
  have h1 := ixT_front s l r (fun t ht => h t (by simp [ht]))
  have := ixT_ge s r
  simp only [List.cons_append, ixT]
  rw [if_neg (h t (by simp)), h1]
  simp only [List.length_cons]
  by_cases h0 : ixT s r < 0
  ·rw [if_pos h0, if_pos (by omega), if_pos h0]
  ·rw [if_neg h0, if_neg (by omega)]; omega
theorem index_ (s : ByteArray) (L : List ByteArray) (hL : L.length ≤ 1000000) (B : Option Addr) (cc : Nat) (H : Hp) (hv : VAt H B L.length (stC (bL L))) : CallO Tryz.prog 111 [pv (.slice B L.length cc), pv (.string s)] H [] fun e H' G' => e = .ret (pv (.int .i64 (ixT s L))) ∧ H' = H ∧ G' = [] := by
 rw [stC_bL] at hv
 refine CallO.of_body tab Tryz.func111 rfl (nt := Tryz.f111.ntmps) rfl (by kernel_rfl) ?_
 (conv => whnf)
 refine WS.loop (fun k' F H3 G => ∃ i : Nat, i ≤ L.length ∧ (∀ t ∈ L.take i, s ≠ t) ∧ k' = L.length - i ∧ F = [(0, pv (.slice B L.length cc)), (1, pv (.string s)), (7, pv (.int .i64 L.length)), (8, pv (.int .i64 i))] ∧ H3 = H ∧ G = []) (L.length + 1) ?_ ?_
 ·refine ⟨L.length, by omega, _, _, [], ⟨0, by omega, fun t ht => by simp at ht, rfl, rfl, rfl, rfl⟩, ?_⟩
  exact ⟨rfl, trivial, rfl, rfl, rfl, rfl, trivial⟩
 rintro k' F H3 G hle3 ⟨i, hi, hno, rfl, rfl, rfl, rfl⟩
 refine codeL.go tab ?_
 (conv => whnf)
 refine br.of (fun h7 => ?_) (fun h7 => ?_) <;> (conv => whnf)
 ·have h7 := of_decide_eq_true h7
  have hil : i < L.length := by omega
  have hget : (L.map Value.string)[i]? = some (.string (L[i]'hil)) := by simp [hil]
  have hdr : L = L.take i ++ L[i]'hil :: L.drop (i + 1) := by rw [← List.drop_eq_getElem_cons hil, List.take_append_drop]
  have htk : L.take (i + 1) = L.take i ++ [L[i]'hil] := by rw [List.take_add_one, List.getElem?_eq_getElem hil]; rfl
  generalize L[i]'hil = t at hget hdr htk
  refine ⟨⟨by omega, by omega⟩, hv.addr (by omega), ?_⟩
  (conv => whnf)
  refine ⟨_, hv.get hget (by show (i : Int).toNat * 1 = i; omega), ?_⟩
  (conv => whnf)
  refine br.of (fun h8 => ?_) (fun h8 => ?_) <;> (conv => whnf)
  ·have h8 := (strEq_iff ..).1 h8
   refine ⟨?_, rfl, rfl⟩
   have : ixT s L = i := by
    rw [hdr, ixT_front s _ _ hno]
    have : ixT s (t :: L.drop (i + 1)) = 0 := by unfold ixT; rw [if_pos h8]
    rw [this, if_neg (by omega), List.length_take]
    omega
   rw [this]; rfl
  ·have h8 : s ≠ t := fun h => by rw [h, str_refl] at h8; cases h8
   rw [wrap64 (x := (i : Int) + 1) (by omega) (by omega)]
   refine ⟨L.length - (i + 1), by omega, _, _, [], ⟨i + 1, by omega, fun u hu => ?_, rfl, rfl, rfl, rfl⟩, ?_⟩
   ·rw [htk] at hu
    rcases List.mem_append.1 hu with hu | hu
    ·exact hno u hu
    ·rw [List.mem_singleton.1 hu]; exact h8
   ·exact ⟨rfl, trivial, rfl, rfl, rfl, rfl, trivial⟩
 ·have h7 := of_decide_eq_false h7
  obtain rfl : i = L.length := by omega
  rw [List.take_length] at hno
  refine ⟨?_, rfl, rfl⟩
  have : ixT s L = -1 := by
   have := ixT_front s L [] hno
   rw [List.append_nil] at this
   rw [this]
   simp [ixT]
  rw [this]; rfl
theorem kind_ix (s : ByteArray) : kindN s = ixT s allN + 1 ∧ (decide (ixT s allN ≥ 0) = !(kindN s == 0)) := by
 unfold kindN allN
 simp only [ixT]
 repeat' split
 all_goals first | exact ⟨rfl, rfl⟩ | omega | (constructor <;> simp_all)
theorem kind_ (s : ByteArray) (H : Hp) : CallO Tryz.prog 80 [pv (.string s)] H [] fun e H' G' => e = .ret (.tu [.ce (.val (.int .i64 (kindN s))), .ce (.val (.bool (!(kindN s == 0))))]) ∧ H.Le H' ∧ G' = [] := by
 obtain ⟨hk1, hk2⟩ := kind_ix s
 obtain ⟨g1, g2⟩ := ixT_ge s allN
 have g3 : allN.length = 6 := rfl
 rw [← hk2, hk1]
 clear hk1 hk2
 refine CallO.of_body tab Tryz.func80 rfl (nt := Tryz.f80.ntmps) rfl (by kernel_rfl) ?_
 (conv => whnf)
 refine ⟨⟨_, Tryz.func59, rfl, by kernel_rfl⟩, CallS.use (names_ H) [] rfl rfl trivial ?_⟩
 rintro e H2 G' hle ⟨⟨B, m, cc, rfl, hv⟩, hle1, rfl⟩
 have hm : m = allN.length := by have := hv.1; rw [stC_len] at this; exact this
 subst hm
 (conv => whnf)
 refine ⟨⟨_, Tryz.func111, rfl, by kernel_rfl⟩, CallS.use (index_ s allN (by decide) B cc H2 hv) [] rfl rfl trivial ?_⟩
 rintro e H3 G' hle3 ⟨rfl, rfl, rfl⟩
 generalize ixT s allN = i at *
 (conv => whnf)
 rw [wrap64 (x := i + 1) (by omega) (by omega)]
 exact ⟨rfl, hle1, rfl⟩
end Go.Kx.Se
namespace Go.Kx.Se
open Go.Proofs Go.Kx Go.RowKit Go.Kx.Js Go.Kx.Pr Go.Kx.Rt Go.Kx.Ob Go.Kx.Wo Go.Kx.Cl Go.Kx.Pa Go.Kx.Su
set_option maxRecDepth 20000
set_option linter.unusedSimpArgs false
abbrev cs10 (a b c : ByteArray) (n : Int) (t f i o : ByteArray) (k : Int) (r : ByteArray) : List SC := [.val (.string a), .val (.string b), .val (.string c), .val (.int .i64 n), .val (.string t), .val (.string f), .val (.string i), .val (.string o), .val (.int .i64 k), .val (.string r)]
def agC (c : Clm) : SV := .si (.ag (cs10 c.iss c.jti c.aud c.iat c.txn c.sub.fmt c.sub.id c.sub.own c.kind c.reason))
theorem right0 (a b c : ByteArray) (n : Int) (t f i o : ByteArray) (k : Int) (r : ByteArray) (hk : -9223372036854775808 ≤ k ∧ k ≤ 9223372036854775807) (H : Hp) :
  CallO Tryz.prog 11 [.si (.ag (cs10 a b c n t f i o k r))] H [] fun e H' G' => e = .ret (pv (.bool (clRight ⟨a, b, c, n, t, ⟨f, i, o⟩, k, r⟩))) ∧ H.Le H' ∧ G' = [] := by
 unfold clRight
 dsimp only
 refine CallO.of_body tab Tryz.func11 rfl (nt := Tryz.f11.ntmps) rfl (by kernel_rfl) ?_
 (conv => whnf)
 refine ⟨⟨_, Tryz.func27, rfl, by kernel_rfl⟩, CallS.use (name_ k hk.1 hk.2 H) [] rfl rfl trivial ?_⟩
 rintro e H1 G' hle1 ⟨rfl, hle1', rfl⟩
 generalize hb : (decide (1 ≤ k) && decide (k ≤ 6)) = b0
 cases b0
 all_goals (conv => whnf)
 ·exact ⟨rfl, hle1, rfl⟩
 refine ⟨⟨_, Tryz.func33, rfl, by kernel_rfl⟩, CallS.use (setWord a _) [] rfl rfl trivial ?_⟩
 rintro e H2 G' hle2 ⟨rfl, rfl⟩
 have hle2 := hle1.trans hle2
 cases Wo.wordP 256 a
 all_goals (conv => whnf)
 ·exact ⟨rfl, hle2, rfl⟩
 refine ⟨⟨_, Tryz.func33, rfl, by kernel_rfl⟩, CallS.use (setWord b _) [] rfl rfl trivial ?_⟩
 rintro e H3 G' hle3 ⟨rfl, rfl⟩
 have hle3 := hle2.trans hle3
 cases Wo.wordP 256 b
 all_goals (conv => whnf)
 ·exact ⟨rfl, hle3, rfl⟩
 refine ⟨⟨_, Tryz.func33, rfl, by kernel_rfl⟩, CallS.use (setWord c _) [] rfl rfl trivial ?_⟩
 rintro e H4 G' hle4 ⟨rfl, rfl⟩
 have hle4 := hle3.trans hle4
 cases Wo.wordP 256 c
 all_goals (conv => whnf)
 ·exact ⟨rfl, hle4, rfl⟩
 refine ⟨⟨_, Tryz.func33, rfl, by kernel_rfl⟩, CallS.use (setWord t _) [] rfl rfl trivial ?_⟩
 rintro e H5 G' hle5 ⟨rfl, rfl⟩
 have hle5 := hle4.trans hle5
 cases Wo.wordP 256 t
 all_goals (conv => whnf)
 ·exact ⟨rfl, hle5, rfl⟩
 refine br.of (fun h1 => ?_) (fun h1 => ?_) <;> (conv => whnf)
 rotate_left
 ·have h1 := of_decide_eq_false h1
  rw [decide_eq_false (show ¬ 0 ≤ n by omega)]
  exact ⟨rfl, hle5, rfl⟩
 have h1 := of_decide_eq_true h1
 rw [decide_eq_true (show 0 ≤ n by omega)]
 refine br.of (fun h2 => ?_) (fun h2 => ?_) <;> (conv => whnf)
 rotate_left
 ·have h2 := of_decide_eq_false h2
  rw [decide_eq_false (show ¬ n ≤ 1099511627776 by omega)]
  exact ⟨rfl, hle5, rfl⟩
 have h2 := of_decide_eq_true h2
 rw [decide_eq_true (show n ≤ 1099511627776 by omega)]
 refine ⟨⟨_, Tryz.func34, rfl, by kernel_rfl⟩, CallS.use (Su.right0 f i o _) [] rfl rfl trivial ?_⟩
 rintro e H6 G' hle6 ⟨rfl, rfl⟩
 have hle6 := hle5.trans hle6
 cases subRight ⟨f, i, o⟩
 all_goals (conv => whnf)
 ·exact ⟨rfl, hle6, rfl⟩
 refine br.of (fun h3 => ?_) (fun h3 => ?_) <;> (conv => whnf)
 ·have h3' : strEq r ⟨#[]⟩ = true := h3
  rw [h3']
  exact ⟨rfl, hle6, rfl⟩
 have h3' : strEq r ⟨#[]⟩ = false := h3
 rw [h3']
 refine ⟨⟨_, Tryz.func33, rfl, by kernel_rfl⟩, CallS.use (setWord r _) [] rfl rfl trivial ?_⟩
 rintro e H7 G' hle7 ⟨rfl, rfl⟩
 (conv => whnf)
 exact ⟨rfl, hle6.trans hle7, rfl⟩
theorem member_ (s : ByteArray) (k : Int) (y : Bool) (t : ByteArray) (A : Option Addr) (n c : Nat) (B : Option Addr) (m d : Nat) (H : Hp) :
  CallO Tryz.prog 30 [pv (.string s), agJ k y t A n c B m d] H [] fun e H' G' => e = .ret (.si (.ag [.val (.string s), .val (.int .i64 k), .val (.bool y), .val (.string t), .val (.slice A n c), .val (.slice B m d)])) ∧ H' = H ∧ G' = [] := by
 refine CallO.of_body tab Tryz.func30 rfl (nt := Tryz.f30.ntmps) rfl (by kernel_rfl) ?_
 (conv => whnf)
 exact ⟨rfl, rfl, rfl⟩
theorem events0 (a b c : ByteArray) (n : Int) (t f i o : ByteArray) (k : Int) (r : ByteArray) (hk : 1 ≤ k ∧ k ≤ 6) (H : Hp) :
  CallO Tryz.prog 32 [.si (.ag (cs10 a b c n t f i o k r))] H [] fun e H' G' => (∃ k' y' t' A' n' c' B' m' d', e = .ret (agJ k' y' t' A' n' c' B' m' d') ∧ JAt H' (evJ ⟨a, b, c, n, t, ⟨f, i, o⟩, k, r⟩) [.int .i64 k', .bool y', .string t', .slice A' n' c', .slice B' m' d']) ∧ H.Le H' ∧ G' = [] := by
 refine CallO.of_body tab Tryz.func32 rfl (nt := Tryz.f32.ntmps) rfl (by kernel_rfl) ?_
 (conv => whnf)
 refine br.of (fun h1 => ?_) (fun h1 => ?_) <;> (conv => whnf)
 ·refine ⟨⟨_, Tryz.func31, rfl, by kernel_rfl⟩, CallS.use (Ob.str_ r _) [] rfl rfl trivial ?_⟩
  rintro e H2 G' hle2 ⟨rfl, rfl, rfl⟩
  (conv => whnf)
  refine ⟨⟨_, Tryz.func30, rfl, by kernel_rfl⟩, CallS.use (member_ sReason 4 false r none 0 0 none 0 0 _) [] rfl rfl trivial ?_⟩
  rintro e H3 G' hle3 ⟨rfl, rfl, rfl⟩
  (conv => whnf)
  refine ⟨by decide, .inl ?_⟩
  intro g H4 hle4 hrd
  (conv => whnf)
  have hone : ∀ u ∈ [Value.string sReason, .int .i64 4, .bool false, .string r, .slice none 0 0, .slice none 0 0], u.oneCell' = true := fun u hu => by simp only [List.mem_cons, List.mem_nil_iff, or_false] at hu; rcases hu with rfl | rfl | rfl | rfl | rfl | rfl <;> rfl
  refine ⟨_, rfl, hrd, hone, ?_⟩
  (conv => whnf)
  refine ⟨by decide, ?_⟩
  (conv => whnf)
  have hr : ¬ strEq r ⟨#[]⟩ = true := by simpa using h1
  have hev : evMs ⟨a, b, c, n, t, ⟨f, i, o⟩, k, r⟩ = [(sReason, strJ r)] := by unfold evMs; dsimp only; rw [if_neg hr]
  refine ⟨⟨_, Tryz.func27, rfl, by kernel_rfl⟩, CallS.use (name_ k (by omega) (by omega) _) [] rfl rfl trivial ?_⟩
  rintro e H5 G' hle5 ⟨rfl, hle5', rfl⟩
  (conv => whnf)
  refine ⟨⟨_, Tryz.func18, rfl, by kernel_rfl⟩, CallS.use (objO [(sReason, strJ r)] [.string sReason, .int .i64 4, .bool false, .string r, .slice none 0 0, .slice none 0 0] Nat.zero_lt_one (Nat.le_of_ble_eq_true rfl) _ (.cons (.bare 4 false r) .nil)) [2] rfl rfl ⟨rfl, trivial⟩ ?_⟩
  rintro e H6 G' hle6 ⟨⟨B6, d6, rfl, hj6⟩, rfl⟩
  (conv => whnf)
  have hin0 : JAt H6 (objJ (evMs ⟨a, b, c, n, t, ⟨f, i, o⟩, k, r⟩)) [.int .i64 6, .bool false, .string ⟨#[]⟩, .slice none 0 0, .slice B6 1 d6] := by rw [hev]; exact hj6
  refine ⟨⟨_, Tryz.func30, rfl, by kernel_rfl⟩, CallS.use (member_ (nameK k) 6 false ⟨#[]⟩ none 0 0 B6 1 d6 _) [] rfl rfl trivial ?_⟩
  rintro e H7 G' hle7 ⟨rfl, rfl, rfl⟩
  (conv => whnf)
  refine ⟨by decide, .inl ?_⟩
  intro g2 H8 hle8 hrd2
  (conv => whnf)
  have hms8 : MsAt H8 [(nameK k, objJ (evMs ⟨a, b, c, n, t, ⟨f, i, o⟩, k, r⟩))] [.string (nameK k), .int .i64 6, .bool false, .string ⟨#[]⟩, .slice none 0 0, .slice B6 1 d6] := .cons (hin0.mono hle8) .nil
  refine ⟨⟨_, Tryz.func18, rfl, by kernel_rfl⟩, CallS.use (obj_ [(nameK k, objJ (evMs ⟨a, b, c, n, t, ⟨f, i, o⟩, k, r⟩))] (Nat.le_of_ble_eq_true rfl) (some ⟨g2, 0, none⟩) 1 _ H8 hms8 ⟨fun e => (nomatch e), fun a e => by injection e with e; subst e; exact hrd2⟩ Nat.zero_lt_one) [] rfl rfl trivial ?_⟩
  rintro e H9 G' hle9 ⟨⟨B3, d3, rfl, hj⟩, rfl⟩
  (conv => whnf)
  exact ⟨⟨_, _, _, _, _, _, _, _, _, rfl, hj⟩, ((((hle2.trans hle4).trans hle5).trans hle6).trans hle8).trans hle9, rfl⟩
 ·have hr : strEq r ⟨#[]⟩ = true := by simpa using h1
  have hev : evMs ⟨a, b, c, n, t, ⟨f, i, o⟩, k, r⟩ = [] := by unfold evMs; dsimp only; rw [if_pos hr]
  refine ⟨⟨_, Tryz.func27, rfl, by kernel_rfl⟩, CallS.use (name_ k (by omega) (by omega) _) [] rfl rfl trivial ?_⟩
  rintro e H5 G' hle5 ⟨rfl, hle5', rfl⟩
  (conv => whnf)
  refine ⟨⟨_, Tryz.func18, rfl, by kernel_rfl⟩, CallS.use (objNil _) [] rfl rfl trivial ?_⟩
  rintro e H6 G' hle6 ⟨rfl, rfl, rfl⟩
  (conv => whnf)
  have hin0 : JAt H6 (objJ (evMs ⟨a, b, c, n, t, ⟨f, i, o⟩, k, r⟩)) [.int .i64 6, .bool false, .string ⟨#[]⟩, .slice none 0 0, .slice none 0 0] := by rw [hev]; exact .bare 6 false ⟨#[]⟩
  refine ⟨⟨_, Tryz.func30, rfl, by kernel_rfl⟩, CallS.use (member_ (nameK k) 6 false ⟨#[]⟩ none 0 0 none 0 0 _) [] rfl rfl trivial ?_⟩
  rintro e H7 G' hle7 ⟨rfl, rfl, rfl⟩
  (conv => whnf)
  refine ⟨by decide, .inl ?_⟩
  intro g2 H8 hle8 hrd2
  (conv => whnf)
  have hms8 : MsAt H8 [(nameK k, objJ (evMs ⟨a, b, c, n, t, ⟨f, i, o⟩, k, r⟩))] [.string (nameK k), .int .i64 6, .bool false, .string ⟨#[]⟩, .slice none 0 0, .slice none 0 0] := .cons (hin0.mono hle8) .nil
  refine ⟨⟨_, Tryz.func18, rfl, by kernel_rfl⟩, CallS.use (obj_ [(nameK k, objJ (evMs ⟨a, b, c, n, t, ⟨f, i, o⟩, k, r⟩))] (Nat.le_of_ble_eq_true rfl) (some ⟨g2, 0, none⟩) 1 _ H8 hms8 ⟨fun e => (nomatch e), fun a e => by injection e with e; subst e; exact hrd2⟩ Nat.zero_lt_one) [] rfl rfl trivial ?_⟩
  rintro e H9 G' hle9 ⟨⟨B3, d3, rfl, hj⟩, rfl⟩
  (conv => whnf)
  exact ⟨⟨_, _, _, _, _, _, _, _, _, rfl, hj⟩, (hle5.trans hle8).trans hle9, rfl⟩
end Go.Kx.Se
namespace Go.Kx.Se
open Go.Proofs Go.Kx Go.RowKit Go.Kx.Js Go.Kx.Pr Go.Kx.Rt Go.Kx.Ob Go.Kx.Wo Go.Kx.Cl Go.Kx.Pa Go.Kx.Su
set_option maxRecDepth 20000
set_option linter.unusedSimpArgs false
def valP (c : Clm) : J × Int := if clRight c then (clJ c, 0) else (jNone, 10)
theorem value0 (a b c : ByteArray) (n : Int) (t f i o : ByteArray) (k : Int) (r : ByteArray) (hk : -9223372036854775808 ≤ k ∧ k ≤ 9223372036854775807) (H : Hp) :
  CallO Tryz.prog 10 [.si (.ag (cs10 a b c n t f i o k r))] H [] fun e H' G' => RJ2 (valP ⟨a, b, c, n, t, ⟨f, i, o⟩, k, r⟩) e H' ∧ H.Le H' ∧ G' = [] := by
 have hri := right_iff ⟨a, b, c, n, t, ⟨f, i, o⟩, k, r⟩
 unfold valP
 refine CallO.of_body tab Tryz.func10 rfl (nt := Tryz.f10.ntmps) rfl (by kernel_rfl) ?_
 (conv => whnf)
 refine ⟨⟨_, Tryz.func11, rfl, by kernel_rfl⟩, CallS.use (right0 a b c n t f i o k r hk H) [] rfl rfl trivial ?_⟩
 rintro e H1 G' hle1 ⟨rfl, hle1', rfl⟩
 cases hr : clRight ⟨a, b, c, n, t, ⟨f, i, o⟩, k, r⟩
 all_goals (conv => whnf)
 ·exact ⟨⟨_, _, _, _, _, _, _, _, _, rfl, .bare 0 false ⟨#[]⟩⟩, hle1, rfl⟩
 have hR := hri.1 hr
 have hn0 := hR.iat.1
 have hn1 := hR.iat.2
 have hk0 := hR.kind
 have hsub := hR.sub
 dsimp only at hn0 hn1 hk0 hsub
 have hsv : subValP ⟨f, i, o⟩ = (subJ ⟨f, i, o⟩, 0) := by unfold subValP; rw [hsub]; rfl
 refine ⟨⟨_, Tryz.func29, rfl, by kernel_rfl⟩, CallS.use (Su.value0 f i o H1) [] rfl rfl trivial ?_⟩
 rw [hsv]
 rintro e H2 G' hle2 ⟨⟨k2, y2, t2, A2, n2, c2, B2, m2, d2, rfl, hj2⟩, hle2', rfl⟩
 (conv => whnf)
 refine WS.draw tab mixed (.take 0 (.take 1 (.take 4 (.take 5 (.take 8 (.take 9 (.take 12 (.take 13 (.take 16 (.take 17 (.take 20 (.take 22 (.alt 2 (.alt 3 (.alt 6 (.alt 7 (.alt 10 (.alt 11 (.alt 14 (.alt 15 (.alt 18 (.alt 19 (.alt 21 (.alt 23 (.alt 24 (.alt 25 (.alt 26 (.alt 27 (.take 28 .done) .no) .no) .no) .no) .no) .no) .no) .no) .no) .no) .no) .no) .no) .no) .no) .no))))))))))))) (by kernel_rfl) [1] ?_
 (conv => whnf)
 repeat' (first
  | exact trivial
  | exact rfl
  | exact ⟨rfl, rfl, rfl, trivial⟩
  | exact ⟨_, Tryz.func31, rfl, by kernel_rfl⟩
  | exact ⟨_, Tryz.func19, rfl, by kernel_rfl⟩
  | exact ⟨_, Tryz.func18, rfl, by kernel_rfl⟩
  | exact ⟨_, Tryz.func30, rfl, by kernel_rfl⟩
  | exact ⟨_, Tryz.func32, rfl, by kernel_rfl⟩
  | (refine CallS.use (Ob.str_ _ _) [] rfl rfl trivial ?_; rintro e H6 G' hle7 ⟨rfl, rfl, rfl⟩; (conv => whnf))
  | (refine CallS.use (num_ n (by omega) (by omega) _) [] rfl rfl trivial ?_; rintro e H6 G' hle7 ⟨rfl, rfl, rfl⟩; (conv => whnf))
  | (refine CallS.use (member_ _ _ _ _ _ _ _ _ _ _ _) [] rfl rfl trivial ?_; rintro e H6 G' hle7 ⟨rfl, rfl, rfl⟩; (conv => whnf))
  | (refine CallS.use (events0 a b c n t f i o k r hk0 _) [] rfl rfl trivial ?_; rintro e H6 G' hle7 ⟨⟨k6, y6, t6, A6, n6, c6, B6, m6, d6, rfl, hj6⟩, hle6, rfl⟩; (conv => whnf))
  | exact Nat.le_of_ble_eq_true rfl
  | (refine .inl ?_; intro g H7 hle8 hrd; (conv => whnf))
  | (refine And.intro ?_ ?_ <;> (conv => whnf)))
 have hms : MsAt H7 (clMs ⟨a, b, c, n, t, ⟨f, i, o⟩, k, r⟩) _ := .cons (.bare 4 false a) (.cons (.bare 4 false b) (.cons (.bare 3 false (Lb.itoaB n)) (.cons (.bare 4 false c) (.cons (.bare 4 false t) (.cons (hj2.mono (hle6.trans hle8)) (.cons (hj6.mono hle8) .nil))))))
 have hfin := ((hle1.trans hle2).trans hle6).trans hle8
 refine CallS.use (obj_ (clMs ⟨a, b, c, n, t, ⟨f, i, o⟩, k, r⟩) (Nat.le_of_ble_eq_true rfl) (some ⟨g, 0, none⟩) 7 _ H7 hms ⟨fun e => (nomatch e), fun a e => by injection e with e; subst e; exact hrd⟩ (Nat.zero_lt_succ _)) [] rfl rfl trivial ?_
 rintro e H8 G' hle9 ⟨⟨B8, d8, rfl, hj8⟩, rfl⟩
 (conv => whnf)
 repeat' (first
  | exact trivial
  | exact rfl
  | exact ⟨rfl, trivial, rfl, trivial⟩
  | exact ⟨⟨_, _, _, _, _, _, _, _, _, rfl, hj8⟩, hfin.trans hle9, rfl⟩
  | (refine And.intro ?_ ?_ <;> (conv => whnf)))
theorem value_ (c : Clm) (hk : -9223372036854775808 ≤ c.kind ∧ c.kind ≤ 9223372036854775807) (H : Hp) : CallO Tryz.prog 10 [agC c] H [] fun e H' G' => RJ2 (valP c) e H' ∧ H.Le H' ∧ G' = [] :=
 value0 c.iss c.jti c.aud c.iat c.txn c.sub.fmt c.sub.id c.sub.own c.kind c.reason hk H
end Go.Kx.Se
namespace Go.Kx.Se
open Go.Proofs Go.Kx Go.RowKit Go.Kx.Js Go.Kx.Pr Go.Kx.Rt Go.Kx.Ob Go.Kx.Wo Go.Kx.Cl Go.Kx.Pa Go.Kx.Su
set_option maxRecDepth 20000
set_option linter.unusedSimpArgs false
theorem said_ (j : J) (hl : j.mems.length ≤ 1000000) (s : ByteArray) (k : Int) (y : Bool) (t : ByteArray) (A : Option Addr) (n c : Nat) (B : Option Addr) (m d : Nat) (H : Hp) (hj : JAt H j [.int .i64 k, .bool y, .string t, .slice A n c, .slice B m d]) :
  CallO Tryz.prog 40 [agJ k y t A n c B m d, pv (.string s)] H [] fun e H' G' => e = .ret (pv (.string (said j s))) ∧ H' = H ∧ G' = [] := by
 unfold said
 refine CallO.of_body tab Tryz.func40 rfl (nt := Tryz.f40.ntmps) rfl (by kernel_rfl) ?_
 (conv => whnf)
 refine ⟨⟨_, Tryz.func41, rfl, by kernel_rfl⟩, CallS.use (get_ j k y t A n c B m d s H hj hl) [] rfl rfl trivial ?_⟩
 rintro e H1 G' hle1 ⟨rfl, hg, rfl⟩
 cases hgj : j.get s with
 | none =>
  rw [hgj] at hg
  obtain rfl := hg
  (conv => whnf)
  exact ⟨rfl, rfl, rfl⟩
 | some q =>
  rw [hgj] at hg
  obtain ⟨k2, y2, t2, A2, n2, c2, B2, m2, d2, rfl, hj2⟩ := hg
  obtain ⟨rfl, rfl⟩ : k2 = q.kind ∧ t2 = q.text := by cases hj2; exact ⟨rfl, rfl⟩
  (conv => whnf)
  refine br.of (fun h => ?_) (fun h => ?_) <;> (conv => whnf)
  ·simp only [bne_iff_ne, ne_eq] at h
   dsimp only
   rw [if_neg h]
   exact ⟨rfl, rfl, rfl⟩
  ·simp only [bne_eq_false_iff_eq] at h
   dsimp only
   rw [if_pos h]
   exact ⟨rfl, rfl, rfl⟩
theorem event_ (j : J) (hs : smJ j) (k : Int) (y : Bool) (t : ByteArray) (A : Option Addr) (n c : Nat) (B : Option Addr) (m d : Nat) (H : Hp) (hj : JAt H j [.int .i64 k, .bool y, .string t, .slice A n c, .slice B m d]) :
  CallO Tryz.prog 44 [agJ k y t A n c B m d] H [] fun e H' G' => e = .ret (.tu [.ce (.val (.int .i64 (event j).1)), .ce (.val (.string (event j).2))]) ∧ H.Le H' ∧ G' = [] := by
 cases hj with
 | mk h1 h2 h3 h4 h5 h6 =>
 rename_i js ms xs zs
 have hev : event (.mk k y t js ms) = if k = 6 then (match ms with | [(s, m)] => (kindN s, said m sReason) | _ => (0, ⟨#[]⟩)) else (0, ⟨#[]⟩) := rfl
 rw [hev]
 subst h4
 refine CallO.of_body tab Tryz.func44 rfl (nt := Tryz.f44.ntmps) rfl (by kernel_rfl) ?_
 (conv => whnf)
 refine br.of (fun h7 => ?_) (fun h7 => ?_) <;> (conv => whnf)
 ·simp only [bne_iff_ne, ne_eq] at h7
  rw [if_neg h7]
  exact ⟨rfl, .refl _, rfl⟩
 simp only [bne_eq_false_iff_eq] at h7
 rw [if_pos h7]
 refine br.of (fun h8 => ?_) (fun h8 => ?_) <;> (conv => whnf)
 ·simp only [bne_iff_ne, ne_eq] at h8
  have : (match ms with | [(s, m)] => (kindN s, said m sReason) | _ => ((0 : Int), (⟨#[]⟩ : ByteArray))) = (0, ⟨#[]⟩) := by
   cases ms with
   | nil => rfl
   | cons a r =>
    cases r with
    | nil => exact absurd rfl h8
    | cons b r => rfl
  rw [this]
  exact ⟨rfl, .refl _, rfl⟩
 simp only [bne_eq_false_iff_eq] at h8
 obtain ⟨s, q, rfl⟩ : ∃ s q, ms = [(s, q)] := by
  cases ms with
  | nil => simp at h8
  | cons a r =>
   cases r with
   | nil => exact ⟨a.1, a.2, rfl⟩
   | cons b r => simp at h8; omega
 cases h5 with
 | cons hq hnil =>
 rename_i cs zs'
 cases hnil
 obtain ⟨A2, n2, c2, B2, m2, d2, rfl⟩ := hq.cells
 have hsq : smJ q := (smMs_get hs.2.2.2.2 (i := 0) rfl).2
 have hne0 : (Value.string s :: [Value.int .i64 q.kind, .bool q.yes, .string q.text, .slice A2 n2 c2, .slice B2 m2 d2] ++ []) ≠ [] := by simp
 refine ⟨⟨Int.le_refl _, by show (0 : Int) < 1; decide⟩, h6.addr hne0, ?_⟩
 (conv => whnf)
 refine ⟨h6.addr hne0, ?_⟩
 (conv => whnf)
 have hv6 : VAt H B 6 _ := ⟨rfl, h6.1, h6.2⟩
 refine ⟨_, hv6.get (i := 0) rfl rfl, ?_⟩
 (conv => whnf)
 refine ⟨⟨_, Tryz.func80, rfl, by kernel_rfl⟩, CallS.use (kind_ s H) [] rfl rfl trivial ?_⟩
 rintro e H2 G' hle2 ⟨rfl, hle2', rfl⟩
 (conv => whnf)
 refine ⟨⟨Int.le_refl _, by show (0 : Int) < 1; decide⟩, h6.addr hne0, ?_⟩
 (conv => whnf)
 refine ⟨h6.addr hne0, ?_⟩
 (conv => whnf)
 refine ⟨_, rfl, (h6.mono hle2).cells hne0 (a := 1) (m := 5) rfl rfl, ?_⟩
 (conv => whnf)
 refine ⟨⟨_, Tryz.func40, rfl, by kernel_rfl⟩, CallS.use (said_ q (sm_len hsq) sReason q.kind q.yes q.text A2 n2 c2 B2 m2 d2 H2 (hq.mono hle2)) [] rfl rfl trivial ?_⟩
 rintro e H3 G' hle3 ⟨rfl, rfl, rfl⟩
 (conv => whnf)
 exact ⟨rfl, hle2, rfl⟩
end Go.Kx.Se
namespace Go.Kx.Se
open Go.Proofs Go.Kx Go.RowKit Go.Kx.Js Go.Kx.Pr Go.Kx.Rt Go.Kx.Ob Go.Kx.Wo Go.Kx.Cl Go.Kx.Pa Go.Kx.Su
set_option maxRecDepth 20000
set_option linter.unusedSimpArgs false
theorem getP_mem : ∀ {ms : List (ByteArray × J)} {s : ByteArray} {q : J}, getP ms s = some q → ∃ i : Nat, ms[i]? = some (s, q)
 | [], s, q, h => by cases h
 | (t, j) :: r, s, q, h => by
  unfold getP at h
  split at h
  ·rename_i hts
   injection h with h
   exact ⟨0, by rw [← hts, ← h]; rfl⟩
  ·obtain ⟨i, hi⟩ := getP_mem h
   exact ⟨i + 1, by simpa using hi⟩
theorem sm_mem {j : J} (h : smJ j) (s : ByteArray) : smJ (memJ j s) := by
 obtain ⟨k, y, t, js, ms⟩ := j
 have h0 : smJ jNone := ⟨Nat.zero_le _, Nat.zero_le _, Nat.zero_le _, trivial, trivial⟩
 have hm : memJ (.mk k y t js ms) s = if k = 6 then (getP ms s).getD jNone else jNone := by
  show (if k = 6 then getP ms s else none).getD jNone = _
  split <;> rfl
 rw [hm]
 split
 ·cases hg : getP ms s with
  | none => exact h0
  | some q =>
   obtain ⟨i, hi⟩ := getP_mem hg
   exact (smMs_get h.2.2.2.2 hi).2
 ·exact h0
theorem sm_text {j : J} (h : smJ j) : j.text.size ≤ 190000 := by
 obtain ⟨k, y, t, js, ms⟩ := j
 exact h.1
theorem getM_ (j : J) (hl : j.mems.length ≤ 1000000) (s : ByteArray) (k : Int) (y : Bool) (t : ByteArray) (A : Option Addr) (n c : Nat) (B : Option Addr) (m d : Nat) (H : Hp) (hj : JAt H j [.int .i64 k, .bool y, .string t, .slice A n c, .slice B m d]) :
  CallO Tryz.prog 41 [agJ k y t A n c B m d, pv (.string s)] H [] fun e H' G' => H' = H ∧ (∃ k y t A n c B m d b, e = .ret (.tu [.ag [.val (.int .i64 k), .val (.bool y), .val (.string t), .val (.slice A n c), .val (.slice B m d)], .ce (.val (.bool b))]) ∧ JAt H' (memJ j s) [.int .i64 k, .bool y, .string t, .slice A n c, .slice B m d]) ∧ G' = [] := by
 refine (get_ j k y t A n c B m d s H hj hl).mono ?_
 rintro e H' G' hle ⟨rfl, hg, rfl⟩
 refine ⟨rfl, ?_, rfl⟩
 unfold memJ
 cases hgj : j.get s with
 | none =>
  rw [hgj] at hg
  exact ⟨_, _, _, _, _, _, _, _, _, _, hg, .bare 0 false ⟨#[]⟩⟩
 | some q =>
  rw [hgj] at hg
  obtain ⟨k2, y2, t2, A2, n2, c2, B2, m2, d2, rfl, hj2⟩ := hg
  exact ⟨_, _, _, _, _, _, _, _, _, _, rfl, hj2⟩
abbrev csC (c : Clm) : List SC := cs10 c.iss c.jti c.aud c.iat c.txn c.sub.fmt c.sub.id c.sub.own c.kind c.reason
def RO (x : Option Clm) (e : SE) : Prop := match x with
 | some c => e = .ret (.tu [.ag (csC c), .ce (.val (.int .i64 0))])
 | none => e = .ret (.tu [.ag (csC clm0), .ce (.val (.int .i64 10))])
theorem kindN_le (s : ByteArray) : 0 ≤ kindN s ∧ kindN s ≤ 6 := by
 unfold kindN
 repeat' split
 all_goals omega
theorem event_le (j : J) : 0 ≤ (event j).1 ∧ (event j).1 ≤ 6 := by
 unfold event
 split
 ·split
  ·exact kindN_le _
  ·exact ⟨Int.le_refl _, by decide⟩
 ·exact ⟨Int.le_refl _, by decide⟩
theorem of_ (j : J) (hs : smJ j) (hw : 6 * (wrJ j).length ≤ 8000000) (k : Int) (y : Bool) (t : ByteArray) (A : Option Addr) (n c : Nat) (B : Option Addr) (m d : Nat) (H : Hp) (hE : ErrH H) (hj : JAt H j [.int .i64 k, .bool y, .string t, .slice A n c, .slice B m d]) :
  CallO Tryz.prog 14 [agJ k y t A n c B m d] H [] fun e H' G' => RO (ofP j) e ∧ H.Le H' ∧ G' = [] := by
 have hl := sm_len hs
 have hC : ofC j = ⟨said j sIss, said j sJti, said j sAud, (intP (memJ j sIat)).1, said j sTxn, (subOf (memJ j sSubId)).1, (event (memJ j sEvents)).1, (event (memJ j sEvents)).2⟩ := rfl
 have hkl := event_le (memJ j sEvents)
 refine CallO.of_body tab Tryz.func14 rfl (nt := Tryz.f14.ntmps) rfl (by kernel_rfl) ?_
 (conv => whnf)
 refine WS.draw tab mixed (.take 0 (.take 2 (.take 4 (.take 6 (.alt 1 (.alt 3 (.alt 5 (.alt 7 (.take 8 (.alt 9 (.alt 10 .done .no) .no)) (.alt 9 (.alt 7 (.take 8 (.alt 10 .done .no)) .no) .no)) (.alt 9 (.alt 5 (.alt 7 (.take 8 (.alt 10 .done .no)) .no) .no) .no)) (.alt 9 (.alt 3 (.alt 5 (.alt 7 (.take 8 (.alt 10 .done .no)) .no) .no) .no) .no)) (.alt 9 (.alt 1 (.alt 3 (.alt 5 (.alt 7 (.take 8 (.alt 10 .done .no)) .no) .no) .no) .no) .no)))))) (by kernel_rfl) [] ?_
 (conv => whnf)
 repeat' (first
  | exact trivial
  | exact rfl
  | exact ⟨rfl, rfl, trivial⟩
  | exact ⟨_, Tryz.func40, rfl, by kernel_rfl⟩
  | (refine CallS.use (said_ j hl _ k y t A n c B m d _ hj) [] rfl rfl trivial ?_; rintro e H6 G' hle7 ⟨rfl, rfl, rfl⟩; (conv => whnf))
  | exact ⟨_, Tryz.func41, rfl, by kernel_rfl⟩
  | (refine And.intro ?_ ?_ <;> (conv => whnf)))
 all_goals
  refine CallS.use (getM_ j hl sIat k y t A n c B m d _ hj) [] rfl rfl trivial ?_
  rintro e H7 G' hle8 ⟨rfl, ⟨k2, y2, t2, A2, n2, c2, B2, m2, d2, b2, rfl, hj2⟩, rfl⟩
  (conv => whnf)
  refine ⟨⟨_, Tryz.func42, rfl, by kernel_rfl⟩, CallS.use (int_ _ (sm_text (sm_mem hs sIat)) k2 y2 t2 A2 n2 c2 B2 m2 d2 _ hE hj2) [] rfl rfl trivial ?_⟩
  rintro e H8 G' hle9 ⟨rfl, hle9', rfl⟩
  (conv => whnf)
  refine ⟨⟨_, Tryz.func41, rfl, by kernel_rfl⟩, CallS.use (getM_ j hl sSubId k y t A n c B m d _ (hj.mono hle9)) [] rfl rfl trivial ?_⟩
  rintro e H10 G' hle10 ⟨rfl, ⟨k3, y3, t3, A3, n3, c3, B3, m3, d3, b3, rfl, hj3⟩, rfl⟩
  (conv => whnf)
  refine ⟨⟨_, Tryz.func43, rfl, by kernel_rfl⟩, CallS.use (Su.of_ _ (sm_mem hs sSubId) k3 y3 t3 A3 n3 c3 B3 m3 d3 _ hj3) [] rfl rfl trivial ?_⟩
  rintro e H11 G' hle11 ⟨rfl, hle11', rfl⟩
  (conv => whnf)
  have hleA := hle9.trans hle11
  refine ⟨⟨_, Tryz.func41, rfl, by kernel_rfl⟩, CallS.use (getM_ j hl sEvents k y t A n c B m d _ (hj.mono hleA)) [] rfl rfl trivial ?_⟩
  rintro e H12 G' hle12 ⟨rfl, ⟨k4, y4, t4, A4, n4, c4, B4, m4, d4, b4, rfl, hj4⟩, rfl⟩
  (conv => whnf)
  refine ⟨⟨_, Tryz.func44, rfl, by kernel_rfl⟩, CallS.use (event_ _ (sm_mem hs sEvents) k4 y4 t4 A4 n4 c4 B4 m4 d4 _ hj4) [] rfl rfl trivial ?_⟩
  rintro e H13 G' hle13 ⟨rfl, hle13', rfl⟩
  (conv => whnf)
  have hleB := hleA.trans hle13
  refine ⟨⟨_, Tryz.func10, rfl, by kernel_rfl⟩, CallS.use (value_ (ofC j) ⟨by rw [hC]; dsimp only; omega, by rw [hC]; dsimp only; omega⟩ _) [] rfl rfl trivial ?_⟩
  rintro e H14 G' hle14 ⟨⟨k5, y5, t5, A5, n5, c5, B5, m5, d5, rfl, hj5⟩, hle14', rfl⟩
  have hleC := hleB.trans hle14
  unfold ofP
  unfold valP at hj5 ⊢
  cases hr : clRight (ofC j)
  all_goals
   rw [hr] at hj5
   (conv => whnf)
  ·exact ⟨rfl, hleC, rfl⟩
  have hR := (right_iff (ofC j)).1 hr
  refine ⟨⟨_, Tryz.func17, rfl, by kernel_rfl⟩, CallS.use (same_ (clJ (ofC j)) j (cl_sm hR) hs (cl_wr6 hR) hw k5 y5 t5 A5 n5 c5 B5 m5 d5 k y t A n c B m d _ hj5 (hj.mono hleC)) [] rfl rfl trivial ?_⟩
  rintro e H15 G' hle15 ⟨rfl, hle15', rfl⟩
  cases sameP (clJ (ofC j)) j
  all_goals
   (conv => whnf)
   exact ⟨rfl, hleC.trans hle15, rfl⟩
end Go.Kx.Se
namespace Go.Kx.Jw
open Go.Proofs Go.Kx Go.RowKit Go.Kx.Js Go.Kx.Pr Go.Kx.Rt Go.Kx.Ob Go.Kx.Wo Go.Kx.Cl Go.Kx.Pa Go.Kx.En Go.Kx.Sha Go.Kx.Ro
set_option maxRecDepth 20000
set_option linter.unusedSimpArgs false
def T : Tab := [(91, { k := TK.st [(0, 9, 1), (1, 9, 1)], agg := true, size := 2, bytes := 32, zero := [Z.s, Z.s] }), (95, { k := TK.st [(0, 91, 2), (2, 55, 1), (3, 9, 1), (4, 55, 1)], agg := true, size := 5, bytes := 96, zero := [Z.s, Z.s, Z.sl, Z.s, Z.sl] }), (34, { k := TK.st [(0, 3, 1), (1, 4, 1), (2, 9, 1), (3, 31, 1), (4, 32, 1)], agg := true, size := 5, bytes := 80, zero := [Z.i IntKind.i64, Z.b, Z.s, Z.sl, Z.sl] }), (52, { k := TK.st [(0, 9, 1), (1, 34, 5)], agg := true, size := 6, bytes := 96, zero := [Z.s, Z.i IntKind.i64, Z.b, Z.s, Z.sl, Z.sl] }), (9, { k := TK.string, agg := false, size := 1, bytes := 16, zero := [Z.s] }), (5, { k := TK.int IntKind.u8, agg := false, size := 1, bytes := 1, zero := [Z.i IntKind.u8] }), (55, { k := TK.slice 5, agg := false, size := 1, bytes := 24, zero := [Z.sl] }), (196, { k := TK.st [(0, 35, 1)], agg := true, size := 1, bytes := 8, zero := [Z.i IntKind.i64] }), (35, { k := TK.int IntKind.i64, agg := false, size := 1, bytes := 8, zero := [Z.i IntKind.i64] }), (4, { k := TK.bool, agg := false, size := 1, bytes := 1, zero := [Z.b] }), (3, { k := TK.int IntKind.i64, agg := false, size := 1, bytes := 8, zero := [Z.i IntKind.i64] }), (155, { k := TK.slice 55, agg := false, size := 1, bytes := 24, zero := [Z.sl] }), (32, { k := TK.slice 52, agg := false, size := 1, bytes := 24, zero := [Z.sl] }), (167, { k := TK.func, agg := false, size := 1, bytes := 8, zero := [Z.fn] }), (1, { k := TK.func, agg := false, size := 1, bytes := 8, zero := [Z.fn] }), (62, { k := TK.slice 9, agg := false, size := 1, bytes := 24, zero := [Z.sl] }), (20, { k := TK.ifc, agg := false, size := 1, bytes := 16, zero := [Z.ifc] }), (31, { k := TK.slice 34, agg := false, size := 1, bytes := 24, zero := [Z.sl] })]
set_option maxRecDepth 100000 in
theorem tab : TabOk Tryz.prog T := tabOk_mk (ts := [91, 95, 34, 52, 9, 5, 55, 196, 35, 4, 3, 155, 32, 167, 1, 62, 20, 31]) (by kernel_rfl)
theorem mixed : Tryz.prog.follows .mixedOrders = true := by kernel_rfl
theorem right_ (kid typ : ByteArray) (H : Hp) : CallO Tryz.prog 82 [.si (.ag [.val (.string kid), .val (.string typ)])] H [] fun e H' G' => e = .ret (pv (.bool (Wo.wordP 40 kid && Wo.wordP 40 typ))) ∧ H.Le H' ∧ G' = [] := by
 refine CallO.of_body tab Tryz.func82 rfl (nt := Tryz.f82.ntmps) rfl (by kernel_rfl) ?_
 (conv => whnf)
 refine ⟨⟨_, Tryz.func113, rfl, by kernel_rfl⟩, CallS.use (jwsWord kid H) [] rfl rfl trivial ?_⟩
 rintro e H1 G' hle1 ⟨rfl, rfl⟩
 cases Wo.wordP 40 kid
 all_goals (conv => whnf)
 ·exact ⟨rfl, hle1, rfl⟩
 refine ⟨⟨_, Tryz.func113, rfl, by kernel_rfl⟩, CallS.use (jwsWord typ H1) [] rfl rfl trivial ?_⟩
 rintro e H2 G' hle2 ⟨rfl, rfl⟩
 (conv => whnf)
 exact ⟨rfl, hle1.trans hle2, rfl⟩
theorem head_sz (kid typ : ByteArray) (h1 : kid.size ≤ 40) (h2 : typ.size ≤ 40) : szJ (headJ kid typ) ≤ 200 := by
 have e1 : sAlg.size = 3 := rfl
 have e2 : sKid.size = 3 := rfl
 have e3 : sTyp.size = 3 := rfl
 have e4 : sHs.size = 5 := rfl
 unfold headJ
 rw [obj_sz]
 simp only [szMs, str_sz, e1, e2, e3, e4]
 omega
theorem head_right {kid typ : ByteArray} (h1 : Wo.wordP 40 kid = true) (h2 : Wo.wordP 40 typ = true) : rightJ (headJ kid typ) = true :=
 right3 (by decide) (by decide) (by decide) (told_lit (by decide)) (told_lit (by decide)) (told_lit (by decide)) (told_lit (s := sHs) (by decide)) (word_refl h1) (word_refl h2)
theorem header_ (kid typ : ByteArray) (h1 : Wo.wordP 40 kid = true) (h2 : Wo.wordP 40 typ = true) (H : Hp) : CallO Tryz.prog 84 [.si (.ag [.val (.string kid), .val (.string typ)])] H [] fun e H' G' => e = .ret (pv (.string ⟨(wrJ (headJ kid typ)).toArray⟩)) ∧ H.Le H' ∧ G' = [] := by
 have hsz := head_sz kid typ (word_size h1).1 (word_size h2).1
 have hwr := wr_of (headJ kid typ)
 have hp : printP (headJ kid typ) = (⟨(wrJ (headJ kid typ)).toArray⟩, 0) := by unfold printP; rw [if_pos (head_right h1 h2)]
 have hpr := fun k y t A n c B m d H => print_ (headJ kid typ) (sm_of _ (by omega)) (by omega) k y t A n c B m d H
 rw [hp] at hpr
 refine CallO.of_body tab Tryz.func84 rfl (nt := Tryz.f84.ntmps) rfl (by kernel_rfl) ?_
 (conv => whnf)
 refine WS.draw tab mixed (.take 2 (.take 3 (.take 6 (.take 7 (.alt 0 (.take 1 (.alt 4 (.take 5 (.alt 8 (.take 9 (.alt 10 (.alt 11 (.alt 12 (.take 13 (.take 14 (.take 15 (.take 16 (.take 17 .done))))) .no) .no) .no)) .no)) .no)) .no))))) (by kernel_rfl) [] ?_
 (conv => whnf)
 repeat' (first
  | exact trivial
  | exact rfl
  | exact ⟨rfl, trivial⟩
  | exact ⟨_, Tryz.func31, rfl, by kernel_rfl⟩
  | exact ⟨_, Tryz.func18, rfl, by kernel_rfl⟩
  | exact ⟨_, Tryz.func13, rfl, by kernel_rfl⟩
  | (refine CallS.use (Ob.str_ _ _) [] rfl rfl trivial ?_; rintro e H6 G' hle7 ⟨rfl, rfl, rfl⟩; (conv => whnf))
  | exact Nat.le_of_ble_eq_true rfl
  | (refine .inl ?_; intro g H7 hle8 hrd; (conv => whnf))
  | (refine CallS.use (obj_ [(sAlg, strJ sHs), (sKid, strJ kid), (sTyp, strJ typ)] (Nat.le_of_ble_eq_true rfl) (some ⟨g, 0, none⟩) 3 _ H7 (.cons (.bare 4 false sHs) (.cons (.bare 4 false kid) (.cons (.bare 4 false typ) .nil))) ⟨fun e => (nomatch e), fun a e => by injection e with e; subst e; exact hrd⟩ (Nat.zero_lt_succ _)) [] rfl rfl trivial ?_; rintro e H8 G' hle9 ⟨⟨B8, d8, rfl, hj8⟩, rfl⟩; (conv => whnf))
  | (refine CallS.use (hpr _ _ _ _ _ _ _ _ _ _ hj8) [] rfl rfl trivial ?_; rintro e H9 G' hle10 ⟨rfl, hle11, rfl⟩; (conv => whnf))
  | exact ⟨rfl, (hle8.trans hle9).trans hle10, rfl⟩
  | (refine And.intro ?_ ?_ <;> (conv => whnf)))
theorem bs_app (a b : List UInt8) : (⟨a.toArray⟩ : ByteArray) ++ ⟨b.toArray⟩ = ⟨(a ++ b).toArray⟩ := by
 have : ((⟨a.toArray⟩ : ByteArray) ++ ⟨b.toArray⟩).data = (a ++ b).toArray := by rw [ByteArray.data_append]; simp
 cases h : (⟨a.toArray⟩ : ByteArray) ++ ⟨b.toArray⟩
 rw [h] at this
 simpa using this
theorem bs_size (a : List UInt8) : (⟨a.toArray⟩ : ByteArray).size = a.length := List.size_toArray
theorem bs_cells (a : List UInt8) : byteCells ⟨a.toArray⟩ = bCells a := (cells_str a).symm
theorem signZ_ (kid typ : ByteArray) (pl key : List UInt8) (A : Option Addr) (c : Nat) (B : Option Addr) (d : Nat) (hn : pl.length ≤ 1000000) (hm : key.length ≤ 1000000) (H : Hp) (hb : BytesZ H A pl.length pl) (hk : BytesZ H B key.length key) :
  CallO Tryz.prog 50 [.si (.ag [.val (.string kid), .val (.string typ)]), pv (.slice A pl.length c), pv (.slice B key.length d)] H [] fun e H' G' => e = .ret (.tu [.ce (.val (.string (signP kid typ pl key).1)), .ce (.val (.int .i64 (signP kid typ pl key).2))]) ∧ H.Le H' ∧ G' = [] := by
 unfold signP
 refine CallO.of_body tab Tryz.func50 rfl (nt := Tryz.f50.ntmps) rfl (by kernel_rfl) ?_
 (conv => whnf)
 refine ⟨⟨_, Tryz.func82, rfl, by kernel_rfl⟩, CallS.use (right_ kid typ H) [] rfl rfl trivial ?_⟩
 rintro e H1 G' hle1 ⟨rfl, hle1', rfl⟩
 cases hw : (Wo.wordP 40 kid && Wo.wordP 40 typ)
 all_goals (conv => whnf)
 ·exact ⟨rfl, hle1, rfl⟩
 rw [if_neg (by decide)]
 simp only [Bool.and_eq_true] at hw
 refine br.of (fun h1 => ?_) (fun h1 => ?_) <;> (conv => whnf)
 ·have h1 := of_decide_eq_true h1
  rw [if_pos (by omega)]
  exact ⟨rfl, hle1, rfl⟩
 have h1 := of_decide_eq_false h1
 rw [if_neg (by omega)]
 refine br.of (fun h2 => ?_) (fun h2 => ?_) <;> (conv => whnf)
 ·have h2 := of_decide_eq_true h2
  rw [if_pos (by omega)]
  exact ⟨rfl, hle1, rfl⟩
 have h2 := of_decide_eq_false h2
 rw [if_neg (by omega)]
 refine ⟨⟨_, Tryz.func84, rfl, by kernel_rfl⟩, CallS.use (header_ kid typ hw.1 hw.2 H1) [] rfl rfl trivial ?_⟩
 rintro e H2 G' hle2 ⟨rfl, hle2', rfl⟩
 (conv => whnf)
 have z1 : ∀ a b : ByteArray, (a ++ b).size = a.size + b.size := fun a b => ByteArray.size_append
 have zd : (⟨#[46]⟩ : ByteArray) = ⟨([46] : List UInt8).toArray⟩ := rfl
 have l1 := encP_len _ (wrJ (headJ kid typ)) (Nat.lt_succ_self _)
 have l2 := encP_len _ pl (Nat.lt_succ_self _)
 have l5 := head_len hw.1 hw.2
 have lsg : (signedP kid typ pl).length = (encP (wrJ (headJ kid typ))).length + ((encP pl).length + 1) := by unfold signedP; rw [List.length_append, List.length_cons]
 have l4 : (hmac key (signedP kid typ pl)).length = 32 := sha_length _
 have l3 := encP_len _ (hmac key (signedP kid typ pl)) (Nat.lt_succ_self _)
 intro g cap H3 hle3 hcap hrd
 rw [bs_cells] at hrd
 rw [bs_size]
 (conv => whnf)
 refine ⟨⟨_, Tryz.func83, rfl, by kernel_rfl⟩, CallS.use (En.enc_ (wrJ (headJ kid typ)) (some ⟨g, 0, none⟩) cap (by omega) H3 (.lit rfl hrd)) [] rfl rfl trivial ?_⟩
 rintro e H4 G' hle4 ⟨rfl, hle4', rfl⟩
 (conv => whnf)
 refine ⟨by rw [bs_size]; show _ + 1 ≤ _; omega, ?_⟩
 (conv => whnf)
 have hleA := ((hle1.trans hle2).trans hle3).trans hle4
 refine ⟨⟨_, Tryz.func83, rfl, by kernel_rfl⟩, CallS.use (En.encZ_ pl A c hn H4 (hb.mono hleA)) [] rfl rfl trivial ?_⟩
 rintro e H5 G' hle5 ⟨rfl, hle5', rfl⟩
 (conv => whnf)
 refine ⟨by rw [z1, bs_size (encP (wrJ (headJ kid typ))), bs_size (encP pl)]; show _ + 1 + _ ≤ _; omega, ?_⟩
 have hsg : (⟨(encP (wrJ (headJ kid typ))).toArray⟩ : ByteArray) ++ ⟨#[46]⟩ ++ ⟨(encP pl).toArray⟩ = ⟨(signedP kid typ pl).toArray⟩ := by
  rw [zd, bs_app, bs_app]; unfold signedP; simp
 rw [hsg]
 (conv => whnf)
 refine ⟨by rw [bs_size]; show _ + 1 ≤ _; omega, ?_⟩
 (conv => whnf)
 intro g2 cap2 H6 hle6 hcap2 hrd2
 rw [bs_cells] at hrd2
 rw [bs_size]
 (conv => whnf)
 refine ⟨by decide, .inl ?_⟩
 intro g3 H7 hle7 hrd3
 (conv => whnf)
 have hleB := ((hleA.trans hle5).trans hle6).trans hle7
 refine ⟨⟨_, Tryz.func85, rfl, by kernel_rfl⟩, CallS.use (Sha.code key [signedP kid typ pl] B (some ⟨g3, 0, none⟩) key.length d 1 1 H7 ((hk.full (by omega)).mono hleB) ⟨_, rfl, hrd3, .cons ⟨_, _, _, rfl, (BytesAt.lit rfl hrd2).mono hle7⟩ .nil⟩ hm (by decide) (by simp only [List.flatten_cons, List.flatten_nil, List.append_nil]; omega)) [] rfl rfl trivial ?_⟩
 rintro e H8 G' hle8 ⟨⟨B8, m8, c8, rfl, hb8⟩, rfl⟩
 have hm8 := hb8.1
 simp only [List.flatten_cons, List.flatten_nil, List.append_nil] at hb8 hm8
 subst hm8
 (conv => whnf)
 refine ⟨⟨_, Tryz.func83, rfl, by kernel_rfl⟩, CallS.use (En.enc_ _ B8 c8 (by omega) H8 hb8) [] rfl rfl trivial ?_⟩
 rintro e H9 G' hle9 ⟨rfl, hle9', rfl⟩
 (conv => whnf)
 refine ⟨by rw [z1, bs_size (signedP kid typ pl), bs_size (encP (hmac key (signedP kid typ pl)))]; show _ + 1 + _ ≤ _; omega, ?_⟩
 have htk : (⟨(signedP kid typ pl).toArray⟩ : ByteArray) ++ ⟨#[46]⟩ ++ ⟨(encP (hmac key (signedP kid typ pl))).toArray⟩ = ⟨(tokenP kid typ pl key).toArray⟩ := by
  rw [zd, bs_app, bs_app]; unfold tokenP; simp
 rw [htk]
 (conv => whnf)
 exact ⟨rfl, (hleB.trans hle8).trans hle9, rfl⟩
theorem sign_ (kid typ : ByteArray) (pl key : List UInt8) (A : Option Addr) (c : Nat) (B : Option Addr) (d : Nat) (hn : pl.length ≤ 1000000) (hm : key.length ≤ 1000000) (H : Hp) (hb : BytesAt H A pl.length pl) (hk : BytesAt H B key.length key) :
  CallO Tryz.prog 50 [.si (.ag [.val (.string kid), .val (.string typ)]), pv (.slice A pl.length c), pv (.slice B key.length d)] H [] fun e H' G' => e = .ret (.tu [.ce (.val (.string (signP kid typ pl key).1)), .ce (.val (.int .i64 (signP kid typ pl key).2))]) ∧ H.Le H' ∧ G' = [] :=
 signZ_ kid typ pl key A c B d hn hm H hb.z hk.z
end Go.Kx.Jw
namespace Go.Kx.Jw
open Go.Proofs Go.Kx Go.RowKit Go.Kx.Js Go.Kx.Pr Go.Kx.Rt Go.Kx.Ob Go.Kx.Wo Go.Kx.Cl Go.Kx.Pa Go.Kx.En Go.Kx.Sha Go.Kx.Ro Go.Kx.Su
set_option maxRecDepth 20000
set_option linter.unusedSimpArgs false
def brokenV (e : Int) : Value := .iface 196 (.agg #[.int .i64 e])
def panE (e : Int) : SE := .pan [{ v := brokenV e, recovered := false }]
theorem mustY (x : Int) (H : Hp) : CallO Tryz.prog 158 [pv (.bool true), pv (.int .i64 x)] H [] fun e H' G' => e = .ret (.tu []) ∧ H' = H ∧ G' = [] := by
 refine CallO.of_body tab Tryz.func158 rfl (nt := Tryz.f158.ntmps) rfl (by kernel_rfl) ?_
 (conv => whnf)
 exact ⟨rfl, rfl, rfl⟩
theorem mustN (x : Int) (H : Hp) : CallO Tryz.prog 158 [pv (.bool false), pv (.int .i64 x)] H [] fun e H' G' => e = panE x ∧ H' = H ∧ G' = [] := by
 refine CallO.of_body tab Tryz.func158 rfl (nt := Tryz.f158.ntmps) rfl (by kernel_rfl) ?_
 (conv => whnf)
 exact ⟨rfl, rfl, rfl⟩
def RBy (s : ByteArray) (e : SE) (H' : Hp) : Prop := match decP s with
 | some L => ∃ B m c, e = .ret (pv (.slice B m c)) ∧ BytesAt H' B m L
 | none => e = panE 10
theorem bytes_ (s : ByteArray) (hs : s.size ≤ 1000000) (H : Hp) : CallO Tryz.prog 160 [pv (.string s)] H [] fun e H' G' => RBy s e H' ∧ H.Le H' ∧ G' = [] := by
 unfold RBy
 refine CallO.of_body tab Tryz.func160 rfl (nt := Tryz.f160.ntmps) rfl (by kernel_rfl) ?_
 (conv => whnf)
 refine ⟨⟨_, Tryz.func200, rfl, by kernel_rfl⟩, CallS.use (dec_ s hs H) [] rfl rfl trivial ?_⟩
 rintro e H1 G' hle1 ⟨hd, rfl⟩
 rcases hd with ⟨hd, rfl⟩ | ⟨L, B, m, c, hd, rfl, hb⟩
 all_goals
  rw [hd]
  (conv => whnf)
 ·refine ⟨⟨_, Tryz.func158, rfl, by kernel_rfl⟩, CallS.use (mustN 10 H1) [] rfl rfl trivial ?_⟩
  rintro e H2 G' hle2 ⟨rfl, rfl, rfl⟩
  (conv => whnf)
  exact ⟨rfl, hle1, rfl⟩
 ·refine ⟨⟨_, Tryz.func158, rfl, by kernel_rfl⟩, CallS.use (mustY 10 H1) [] rfl rfl trivial ?_⟩
  rintro e H2 G' hle2 ⟨rfl, rfl, rfl⟩
  (conv => whnf)
  exact ⟨⟨_, _, _, rfl, hb⟩, hle1, rfl⟩
def RW (o : Option ByteArray) (e : SE) : Prop := match o with
 | some s => e = .ret (pv (.string s))
 | none => e = panE 10
theorem member_ (j : J) (hl : j.mems.length ≤ 1000000) (s : ByteArray) (k : Int) (y : Bool) (t : ByteArray) (A : Option Addr) (n c : Nat) (B : Option Addr) (m d : Nat) (H : Hp) (hj : JAt H j [.int .i64 k, .bool y, .string t, .slice A n c, .slice B m d]) :
  CallO Tryz.prog 161 [agJ k y t A n c B m d, pv (.string s)] H [] fun e H' G' => RW (wordJ j s) e ∧ H.Le H' ∧ G' = [] := by
 unfold wordJ
 refine CallO.of_body tab Tryz.func161 rfl (nt := Tryz.f161.ntmps) rfl (by kernel_rfl) ?_
 (conv => whnf)
 refine ⟨⟨_, Tryz.func41, rfl, by kernel_rfl⟩, CallS.use (get_ j k y t A n c B m d s H hj hl) [] rfl rfl trivial ?_⟩
 rintro e H1 G' hle1 ⟨rfl, hg, rfl⟩
 cases hgj : j.get s with
 | none =>
  rw [hgj] at hg
  obtain rfl := hg
  (conv => whnf)
  refine ⟨⟨_, Tryz.func158, rfl, by kernel_rfl⟩, CallS.use (mustN 10 _) [] rfl rfl trivial ?_⟩
  rintro e H2 G' hle2 ⟨rfl, rfl, rfl⟩
  (conv => whnf)
  exact ⟨rfl, hle1, rfl⟩
 | some q =>
  rw [hgj] at hg
  obtain ⟨k2, y2, t2, A2, n2, c2, B2, m2, d2, rfl, hj2⟩ := hg
  obtain ⟨rfl, rfl⟩ : k2 = q.kind ∧ t2 = q.text := by cases hj2; exact ⟨rfl, rfl⟩
  dsimp only
  (conv => whnf)
  refine br.of (fun h => ?_) (fun h => ?_) <;> (conv => whnf)
  ·simp only [beq_iff_eq] at h
   refine ⟨⟨_, Tryz.func113, rfl, by kernel_rfl⟩, CallS.use (jwsWord q.text _) [] rfl rfl trivial ?_⟩
   rintro e H2 G' hle2 ⟨rfl, rfl⟩
   cases hw : Wo.wordP 40 q.text
   all_goals (conv => whnf)
   ·rw [if_neg (by simp)]
    refine ⟨⟨_, Tryz.func158, rfl, by kernel_rfl⟩, CallS.use (mustN 10 _) [] rfl rfl trivial ?_⟩
    rintro e H3 G' hle3 ⟨rfl, rfl, rfl⟩
    (conv => whnf)
    exact ⟨rfl, hle2, rfl⟩
   ·rw [if_pos ⟨h, rfl⟩]
    refine ⟨⟨_, Tryz.func158, rfl, by kernel_rfl⟩, CallS.use (mustY 10 _) [] rfl rfl trivial ?_⟩
    rintro e H3 G' hle3 ⟨rfl, rfl, rfl⟩
    (conv => whnf)
    exact ⟨rfl, hle2, rfl⟩
  ·simp only [beq_eq_false_iff_ne, ne_eq] at h
   rw [if_neg (fun h2 => h h2.1)]
   refine ⟨⟨_, Tryz.func158, rfl, by kernel_rfl⟩, CallS.use (mustN 10 _) [] rfl rfl trivial ?_⟩
   rintro e H3 G' hle3 ⟨rfl, rfl, rfl⟩
   (conv => whnf)
   exact ⟨rfl, hle1, rfl⟩
def RMt (b : Bool) : SE := match b with
 | true => .ret (.tu [])
 | false => panE 42
theorem method_ (j : J) (hl : j.mems.length ≤ 1000000) (k : Int) (y : Bool) (t : ByteArray) (A : Option Addr) (n c : Nat) (B : Option Addr) (m d : Nat) (H : Hp) (hj : JAt H j [.int .i64 k, .bool y, .string t, .slice A n c, .slice B m d]) :
  CallO Tryz.prog 162 [agJ k y t A n c B m d] H [] fun e H' G' => e = RMt (methodP j) ∧ H.Le H' ∧ G' = [] := by
 unfold methodP
 refine CallO.of_body tab Tryz.func162 rfl (nt := Tryz.f162.ntmps) rfl (by kernel_rfl) ?_
 (conv => whnf)
 refine ⟨⟨_, Tryz.func41, rfl, by kernel_rfl⟩, CallS.use (get_ j k y t A n c B m d sAlg H hj hl) [] rfl rfl trivial ?_⟩
 rintro e H1 G' hle1 ⟨rfl, hg, rfl⟩
 cases hgj : j.get sAlg with
 | none =>
  rw [hgj] at hg
  obtain rfl := hg
  (conv => whnf)
  refine ⟨⟨_, Tryz.func158, rfl, by kernel_rfl⟩, CallS.use (mustN 42 _) [] rfl rfl trivial ?_⟩
  rintro e H2 G' hle2 ⟨rfl, rfl, rfl⟩
  (conv => whnf)
  exact ⟨rfl, hle1, rfl⟩
 | some q =>
  rw [hgj] at hg
  obtain ⟨k2, y2, t2, A2, n2, c2, B2, m2, d2, rfl, hj2⟩ := hg
  obtain ⟨rfl, rfl⟩ : k2 = q.kind ∧ t2 = q.text := by cases hj2; exact ⟨rfl, rfl⟩
  dsimp only
  (conv => whnf)
  refine br.of (fun h => ?_) (fun h => ?_) <;> (conv => whnf)
  rotate_left
  ·have h' : (q.kind == 4) = false := h
   rw [h', Bool.false_and, Bool.false_and]
   refine ⟨⟨_, Tryz.func158, rfl, by kernel_rfl⟩, CallS.use (mustN 42 _) [] rfl rfl trivial ?_⟩
   rintro e H3 G' hle3 ⟨rfl, rfl, rfl⟩
   (conv => whnf)
   exact ⟨rfl, hle1, rfl⟩
  have h' : (q.kind == 4) = true := h
  rw [h', Bool.true_and]
  generalize strEq q.text sHs = b
  cases b
  all_goals (conv => whnf)
  ·refine ⟨⟨_, Tryz.func158, rfl, by kernel_rfl⟩, CallS.use (mustN 42 _) [] rfl rfl trivial ?_⟩
   rintro e H3 G' hle3 ⟨rfl, rfl, rfl⟩
   (conv => whnf)
   exact ⟨rfl, hle1, rfl⟩
  refine ⟨⟨_, Tryz.func158, rfl, by kernel_rfl⟩, CallS.use (mustY 42 _) [] rfl rfl trivial ?_⟩
  rintro e H3 G' hle3 ⟨rfl, rfl, rfl⟩
  (conv => whnf)
  refine ⟨⟨_, Tryz.func41, rfl, by kernel_rfl⟩, CallS.use (get_ j k y t A n c B m d sCrit _ hj hl) [] rfl rfl trivial ?_⟩
  rintro e H4 G' hle4 ⟨rfl, hg4, rfl⟩
  cases hgc : j.get sCrit with
  | none =>
   rw [hgc] at hg4
   obtain rfl := hg4
   (conv => whnf)
   refine ⟨⟨_, Tryz.func158, rfl, by kernel_rfl⟩, CallS.use (mustY 42 _) [] rfl rfl trivial ?_⟩
   rintro e H5 G' hle5 ⟨rfl, rfl, rfl⟩
   (conv => whnf)
   exact ⟨rfl, hle1, rfl⟩
  | some q4 =>
   rw [hgc] at hg4
   obtain ⟨k3, y3, t3, A3, n3, c3, B3, m3, d3, rfl, hj3⟩ := hg4
   (conv => whnf)
   refine ⟨⟨_, Tryz.func158, rfl, by kernel_rfl⟩, CallS.use (mustN 42 _) [] rfl rfl trivial ?_⟩
   rintro e H5 G' hle5 ⟨rfl, rfl, rfl⟩
   (conv => whnf)
   exact ⟨rfl, hle1, rfl⟩
end Go.Kx.Jw
namespace Go.Kx.Jw
open Go.Proofs Go.Kx Go.RowKit Go.Kx.Js Go.Kx.Pr Go.Kx.Rt Go.Kx.Ob Go.Kx.Wo Go.Kx.Cl Go.Kx.Pa Go.Kx.En Go.Kx.Sha Go.Kx.Ro Go.Kx.Su
set_option maxRecDepth 20000
set_option linter.unusedSimpArgs false
theorem partsL_mem (c : UInt8) : ∀ (r cur : List UInt8), ∀ p ∈ partsL c cur r, p.length ≤ cur.length + r.length
 | [], cur => fun p hp => by simp [partsL] at hp; subst hp; simp
 | x :: r, cur => fun p hp => by
  unfold partsL at hp
  split at hp
  ·rcases List.mem_cons.1 hp with rfl | hp
   ·simp only [List.length_cons]; omega
   ·have := partsL_mem c r [] p hp; simp only [List.length_cons, List.length_nil] at *; omega
  ·have := partsL_mem c r (cur ++ [x]) p hp; simp only [List.length_append, List.length_cons, List.length_nil] at *; omega
theorem decG_len : ∀ (l : List UInt8) (r n : Nat) {o : List UInt8}, decG r n l = some o → o.length ≤ l.length
 | [], r, n, o, h => by
  unfold decG at h
  split at h
  ·cases h
  ·injection h with h; rw [← h]; simp
 | c :: l, r, n, o, h => by
  unfold decG at h
  split at h
  ·cases h
  split at h
  ·have := decG_len l _ _ h
   simp only [List.length_cons]; omega
  ·cases hd : decG ((r * 64 + (numL c).toNat) % 2 ^ (n - 2)) (n - 2) l with
   | none => rw [hd] at h; cases h
   | some o2 =>
    rw [hd] at h
    injection h with h
    have := decG_len l _ _ hd
    rw [← h]
    simp only [List.length_cons]; omega
theorem decP_len {l o : List UInt8} (h : decP ⟨l.toArray⟩ = some o) : o.length ≤ l.length := decG_len l 0 0 h
def RTok (x : Except Int Tok) (e : SE) (H' : Hp) : Prop := match x with
 | .ok t => ∃ A n c B m d, e = .ret (.si (.ag [.val (.string t.kid), .val (.string t.typ), .val (.slice A n c), .val (.string ⟨t.signed.toArray⟩), .val (.slice B m d)])) ∧ BytesAt H' A n t.payload ∧ BytesAt H' B m t.tag
 | .error x => e = panE x
theorem parts_ (s : ByteArray) (hs : s.size ≤ 1000000) (H : Hp) : CallO Tryz.prog 127 [pv (.string s)] H [] fun e H' G' => RTok (partsP s) e H' ∧ H.Le H' ∧ G' = [] := by
 have hpl := partsL_len 46 s.data.toList []
 have hsl : s.data.toList.length = s.size := by rw [Array.length_toList]; rfl
 have hpd : partsP s = if s.size > 49152 then .error 11 else
  match partsL 46 [] s.data.toList with
  | [a, b, c] => tok3 a b c
  | _ => .error 10 := rfl
 refine CallO.of_body tab Tryz.func127 rfl (nt := Tryz.f127.ntmps) rfl (by kernel_rfl) ?_
 (conv => whnf)
 cases hsz : decide ((s.size : Int) ≤ 49152)
 all_goals (conv => whnf)
 ·have hsz := of_decide_eq_false hsz
  rw [hpd, if_pos (by omega)]
  refine ⟨⟨_, Tryz.func158, rfl, by kernel_rfl⟩, CallS.use (mustN 11 _) [] rfl rfl trivial ?_⟩
  rintro e H2 G' hle2 ⟨rfl, rfl, rfl⟩
  (conv => whnf)
  exact ⟨rfl, .refl _, rfl⟩
 have hsz := of_decide_eq_true hsz
 rw [hpd, if_neg (by omega)]
 refine ⟨⟨_, Tryz.func158, rfl, by kernel_rfl⟩, CallS.use (mustY 11 _) [] rfl rfl trivial ?_⟩
 rintro e H2 G' hle2 ⟨rfl, rfl, rfl⟩
 (conv => whnf)
 refine ⟨⟨_, Tryz.func159, rfl, by kernel_rfl⟩, CallS.use (split_ s hs _) [] rfl rfl trivial ?_⟩
 rintro e H3 G' hle3 ⟨rfl, rfl, rfl⟩
 generalize hP : partsL 46 [] s.data.toList = P at hpl
 (conv => whnf)
 by_cases h3 : P.length = 3
 rotate_left
 ·have e1 : (((P.length : Nat) : Int) == 3) = false := beq_eq_false_iff_ne.2 (by omega)
  have e2 : (match P with | [a, b, c] => tok3 a b c | _ => Except.error (10 : Int)) = .error 10 := by
   match P, h3 with
   | [], _ => rfl
   | [_], _ => rfl
   | [_, _], _ => rfl
   | [_, _, _], h => exact absurd rfl h
   | _ :: _ :: _ :: _ :: _, _ => rfl
  rw [e1, e2]
  refine ⟨⟨_, Tryz.func158, rfl, by kernel_rfl⟩, CallS.use (mustN 10 _) [] rfl rfl trivial ?_⟩
  rintro e H4 G' hle4 ⟨rfl, rfl, rfl⟩
  (conv => whnf)
  exact ⟨rfl, .refl _, rfl⟩
 obtain ⟨a, b, c, rfl⟩ : ∃ a b c, P = [a, b, c] := by
  match P, h3 with
  | [a, b, c], _ => exact ⟨a, b, c, rfl⟩
 have hpm := partsL_mem 46 s.data.toList []
 rw [hP] at hpm
 have la := hpm a (by simp)
 have lb := hpm b (by simp)
 have lc := hpm c (by simp)
 simp only [List.length_nil] at la lb lc
 have sa : (⟨a.toArray⟩ : ByteArray).size ≤ 1000000 := by rw [bs_size]; omega
 have sb : (⟨b.toArray⟩ : ByteArray).size ≤ 1000000 := by rw [bs_size]; omega
 have sc : (⟨c.toArray⟩ : ByteArray).size ≤ 1000000 := by rw [bs_size]; omega
 have ba := bytes_ ⟨a.toArray⟩ sa
 have bb := bytes_ ⟨b.toArray⟩ sb
 have bc := bytes_ ⟨c.toArray⟩ sc
 unfold RBy at ba bb bc
 have e1 : (((([a, b, c] : List (List UInt8)).length : Nat) : Int) == 3) = true := rfl
 have e3 : (match [a, b, c] with | [a, b, c] => tok3 a b c | _ => Except.error (10 : Int)) = tok3 a b c := rfl
 rw [e1, e3]
 clear hpl hpm hP hpd
 unfold tok3
 refine ⟨⟨_, Tryz.func158, rfl, by kernel_rfl⟩, CallS.use (mustY 10 _) [] rfl rfl trivial ?_⟩
 rintro e H4 G' hle4 ⟨rfl, rfl, rfl⟩
 (conv => whnf)
 refine WS.draw tab mixed (.take 0 (.take 1 (.take 2 (.take 4 (.take 5 (.take 6 (.take 8 (.take 9 (.take 10 (.alt 3 (.alt 7 (.alt 11 (.take 12 (.take 13 (.take 14 .done))) .no) .no) .no)))))))))) (by kernel_rfl) [] ?_
 (conv => whnf)
 refine ⟨⟨by decide, by show (0 : Int) < 3; decide⟩, ?_⟩
 (conv => whnf)
 refine ⟨_, rfl, ?_⟩
 (conv => whnf)
 refine ⟨⟨by decide, by show (1 : Int) < 3; decide⟩, ?_⟩
 (conv => whnf)
 refine ⟨_, rfl, ?_⟩
 (conv => whnf)
 refine ⟨⟨by decide, by show (2 : Int) < 3; decide⟩, ?_⟩
 (conv => whnf)
 refine ⟨_, rfl, ?_⟩
 (conv => whnf)
 refine And.intro ?_ ?_ <;> (conv => whnf)
 rotate_left
 ·exact trivial
 refine ⟨⟨_, Tryz.func160, rfl, by kernel_rfl⟩, CallS.use (ba H4) [] rfl rfl trivial ?_⟩
 rintro e H5 G' hle5 ⟨hx, hle5', rfl⟩
 cases hda : decP ⟨a.toArray⟩ with
 | none =>
  rw [hda] at hx
  obtain rfl := hx
  (conv => whnf)
  exact ⟨rfl, hle5, rfl⟩
 | some La =>
 rw [hda] at hx
 obtain ⟨B1, m1, c1, rfl, hb1⟩ := hx
 have hl1 := decP_len hda
 (conv => whnf)
 refine ⟨⟨rfl, rfl, trivial⟩, ?_⟩
 (conv => whnf)
 refine And.intro ?_ ?_ <;> (conv => whnf)
 rotate_left
 ·exact trivial
 refine ⟨⟨_, Tryz.func160, rfl, by kernel_rfl⟩, CallS.use (bb H5) [] rfl rfl trivial ?_⟩
 rintro e H6 G' hle6 ⟨hx, hle6', rfl⟩
 have hle6 := hle5.trans hle6
 cases hdb : decP ⟨b.toArray⟩ with
 | none =>
  rw [hdb] at hx
  obtain rfl := hx
  (conv => whnf)
  exact ⟨rfl, hle6, rfl⟩
 | some Lb =>
 rw [hdb] at hx
 obtain ⟨B2, m2, c2, rfl, hb2⟩ := hx
 have hl2 := decP_len hdb
 (conv => whnf)
 refine ⟨⟨rfl, rfl, trivial⟩, ?_⟩
 (conv => whnf)
 refine And.intro ?_ ?_ <;> (conv => whnf)
 rotate_left
 ·exact trivial
 refine ⟨⟨_, Tryz.func160, rfl, by kernel_rfl⟩, CallS.use (bc H6) [] rfl rfl trivial ?_⟩
 rintro e H7 G' hle7 ⟨hx, hle7', rfl⟩
 have hle67 := hle6'.trans hle7
 have hle7 := hle6.trans hle7
 cases hdc : decP ⟨c.toArray⟩ with
 | none =>
  rw [hdc] at hx
  obtain rfl := hx
  (conv => whnf)
  exact ⟨rfl, hle7, rfl⟩
 | some Lc =>
 rw [hdc] at hx
 obtain ⟨B3, m3, c3, rfl, hb3⟩ := hx
 have hl3 := decP_len hdc
 (conv => whnf)
 refine ⟨⟨rfl, rfl, trivial⟩, ?_⟩
 (conv => whnf)
 have hm1 := hb1.1
 have hm2 := hb2.1
 have hm3 := hb3.1
 have hb1' := hb1.mono hle67
 have hb2' := hb2.mono hle7'
 dsimp only
 have hszJ := parse_sz La 4
 have hpar := parse_ La B1 m1 c1 4 H7 hb1'.z (by omega)
 generalize parseP La 4 = X at hszJ hpar ⊢
 obtain ⟨J0, er, at0⟩ := X
 dsimp only at hszJ hpar ⊢
 have hlm := sm_len (sm_of J0 (by omega))
 refine ⟨⟨_, Tryz.func55, rfl, by kernel_rfl⟩, CallS.use hpar [] rfl rfl trivial ?_⟩
 rintro e H8 G' hle8 ⟨⟨k, y, t, A0, n0, c0, B0, m0, f0, rfl, hj⟩, rfl⟩
 have hk0 : k = J0.kind := by cases hj; rfl
 have hle8' := hle7.trans hle8
 (conv => whnf)
 refine br.of (fun h5 => ?_) (fun h5 => ?_) <;> (conv => whnf)
 rotate_left
 ·have h5 : ¬ er = 0 := by simpa using h5
  rw [if_neg (fun h => h5 h.1)]
  refine ⟨⟨_, Tryz.func158, rfl, by kernel_rfl⟩, CallS.use (mustN 10 _) [] rfl rfl trivial ?_⟩
  rintro e H9 G' hle9 ⟨rfl, rfl, rfl⟩
  (conv => whnf)
  exact ⟨rfl, hle8', rfl⟩
 have h5 : er = 0 := by simpa using h5
 generalize hk6 : ((k : Int) == 6) = b6
 cases b6
 all_goals (conv => whnf)
 ·have hk6 : ¬ k = 6 := by simpa using hk6
  rw [if_neg (fun h => hk6 (by rw [hk0]; exact h.2))]
  refine ⟨⟨_, Tryz.func158, rfl, by kernel_rfl⟩, CallS.use (mustN 10 _) [] rfl rfl trivial ?_⟩
  rintro e H9 G' hle9 ⟨rfl, rfl, rfl⟩
  (conv => whnf)
  exact ⟨rfl, hle8', rfl⟩
 have hk6 : k = 6 := by simpa using hk6
 rw [if_pos ⟨h5, by rw [← hk0]; exact hk6⟩]
 refine ⟨⟨_, Tryz.func158, rfl, by kernel_rfl⟩, CallS.use (mustY 10 _) [] rfl rfl trivial ?_⟩
 rintro e H9 G' hle9 ⟨rfl, rfl, rfl⟩
 (conv => whnf)
 clear hpar h5 ba bb bc
 have hmk := fun H' (hle : H9.Le H') => member_ J0 hlm sKid k y t A0 n0 c0 B0 m0 f0 H' (hj.mono hle)
 have hmt := fun H' (hle : H9.Le H') => member_ J0 hlm sTyp k y t A0 n0 c0 B0 m0 f0 H' (hj.mono hle)
 have hbP := hb2'.mono hle8
 have hbT := hb3.mono hle8
 unfold RW at hmk hmt
 cases hwk : wordJ J0 sKid with
 | none =>
  rw [hwk] at hmk
  refine WS.draw tab mixed (.take 0 (.take 2 (.alt 1 (.alt 3 (.take 4 (.alt 5 (.alt 6 .done .no) .no)) (.alt 5 (.alt 3 (.take 4 (.alt 6 .done .no)) .no) .no)) (.alt 5 (.alt 1 (.alt 3 (.take 4 (.alt 6 .done .no)) .no) .no) .no)))) (by kernel_rfl) [] ?_
  (conv => whnf)
  repeat' (first
   | exact trivial
   | exact ⟨rfl, rfl, rfl, trivial⟩
   | exact ⟨_, Tryz.func161, rfl, by kernel_rfl⟩
   | (refine CallS.use (hmk H9 (.refl _)) [] rfl rfl trivial ?_; rintro e H10 G' hle10 ⟨rfl, hle10', rfl⟩; (conv => whnf))
   | exact ⟨rfl, hle8'.trans hle10, rfl⟩
   | (refine And.intro ?_ ?_ <;> (conv => whnf)))
 | some kid =>
 rw [hwk] at hmk
 cases hwt : wordJ J0 sTyp with
 | none =>
  rw [hwt] at hmt
  refine WS.draw tab mixed (.take 0 (.take 2 (.alt 1 (.alt 3 (.take 4 (.alt 5 (.alt 6 .done .no) .no)) (.alt 5 (.alt 3 (.take 4 (.alt 6 .done .no)) .no) .no)) (.alt 5 (.alt 1 (.alt 3 (.take 4 (.alt 6 .done .no)) .no) .no) .no)))) (by kernel_rfl) [] ?_
  (conv => whnf)
  repeat' (first
   | exact trivial
   | exact ⟨rfl, rfl, rfl, trivial⟩
   | exact ⟨_, Tryz.func161, rfl, by kernel_rfl⟩
   | (refine CallS.use (hmk H9 (.refl _)) [] rfl rfl trivial ?_; rintro e H10 G' hle10 ⟨rfl, hle10', rfl⟩; (conv => whnf))
   | (refine CallS.use (hmt _ hle10) [] rfl rfl trivial ?_; rintro e H11 G' hle11 ⟨rfl, hle11', rfl⟩; (conv => whnf))
   | exact ⟨rfl, (hle8'.trans hle10).trans hle11, rfl⟩
   | (refine And.intro ?_ ?_ <;> (conv => whnf)))
 | some typ =>
 rw [hwt] at hmt
 dsimp only
 refine WS.draw tab mixed (.take 0 (.take 2 (.alt 1 (.alt 3 (.take 4 (.alt 5 (.alt 6 .done .no) .no)) (.alt 5 (.alt 3 (.take 4 (.alt 6 .done .no)) .no) .no)) (.alt 5 (.alt 1 (.alt 3 (.take 4 (.alt 6 .done .no)) .no) .no) .no)))) (by kernel_rfl) [] ?_
 (conv => whnf)
 repeat' (first
  | exact trivial
  | exact ⟨rfl, rfl, rfl, trivial⟩
  | exact ⟨_, Tryz.func161, rfl, by kernel_rfl⟩
  | (refine CallS.use (hmk H9 (.refl _)) [] rfl rfl trivial ?_; rintro e H10 G' hle10 ⟨rfl, hle10', rfl⟩; (conv => whnf))
  | (refine CallS.use (hmt _ hle10) [] rfl rfl trivial ?_; rintro e H11 G' hle11 ⟨rfl, hle11', rfl⟩; (conv => whnf))
  | (refine And.intro ?_ ?_ <;> (conv => whnf)))
 all_goals
  have hleE := (hle8'.trans hle10).trans hle11
  refine br.of (fun h6 => ?_) (fun h6 => ?_) <;> (conv => whnf)
  rotate_left
  ·have h6 := of_decide_eq_false h6
   rw [if_neg (fun h => h6 (by have := h.1; omega))]
   refine ⟨⟨_, Tryz.func158, rfl, by kernel_rfl⟩, CallS.use (mustN 10 _) [] rfl rfl trivial ?_⟩
   rintro e H12 G' hle12 ⟨rfl, rfl, rfl⟩
   (conv => whnf)
   exact ⟨rfl, hleE, rfl⟩
  have h6 := of_decide_eq_true h6
  generalize hk7 : ((m3 : Int) == 32) = b7
  cases b7
  all_goals (conv => whnf)
  ·have hk7 : ¬ (m3 : Int) = 32 := by simpa using hk7
   rw [if_neg (fun h => hk7 (by have := h.2; omega))]
   refine ⟨⟨_, Tryz.func158, rfl, by kernel_rfl⟩, CallS.use (mustN 10 _) [] rfl rfl trivial ?_⟩
   rintro e H12 G' hle12 ⟨rfl, rfl, rfl⟩
   (conv => whnf)
   exact ⟨rfl, hleE, rfl⟩
  have hk7 : (m3 : Int) = 32 := by simpa using hk7
  rw [if_pos ⟨by omega, by omega⟩]
  refine ⟨⟨_, Tryz.func158, rfl, by kernel_rfl⟩, CallS.use (mustY 10 _) [] rfl rfl trivial ?_⟩
  rintro e H12 G' hle12 ⟨rfl, rfl, rfl⟩
  (conv => whnf)
  refine ⟨⟨_, Tryz.func162, rfl, by kernel_rfl⟩, CallS.use (method_ J0 hlm k y t A0 n0 c0 B0 m0 f0 _ (hj.mono (hle10.trans hle11))) [] rfl rfl trivial ?_⟩
  rintro e H13 G' hle13 ⟨rfl, hle13', rfl⟩
  cases methodP J0
  all_goals (conv => whnf)
  ·rw [if_neg (by decide)]
   exact ⟨rfl, hleE.trans hle13, rfl⟩
  rw [if_pos rfl]
  have hbP2 := ((hbP.mono hle10).mono hle11).mono hle13
  have hbT2 := ((hbT.mono hle10).mono hle11).mono hle13
  have zd : (⟨#[46]⟩ : ByteArray) = ⟨([46] : List UInt8).toArray⟩ := rfl
  have hsd : (⟨a.toArray⟩ : ByteArray) ++ ⟨#[46]⟩ ++ ⟨b.toArray⟩ = ⟨(a ++ 46 :: b).toArray⟩ := by
   rw [zd, bs_app, bs_app]; simp
  have z1 : ∀ a b : ByteArray, (a ++ b).size = a.size + b.size := fun a b => ByteArray.size_append
  have q1 : (⟨a.toArray⟩ : ByteArray).size + 1 ≤ 9223372036854775807 := by omega
  have q2 : ((⟨a.toArray⟩ : ByteArray) ++ ⟨#[46]⟩).size + (⟨b.toArray⟩ : ByteArray).size ≤ 9223372036854775807 := by rw [z1]; show _ + 1 + _ ≤ _; omega
  refine WS.draw tab mixed (.take 0 (.take 1 (.take 2 (.take 3 (.take 4 (.take 5 (.take 6 (.take 7 (.take 8 (.take 9 (.take 10 (.take 11 (.alt 12 .done .no))))))))))))) (by kernel_rfl) [0] ?_
  (conv => whnf)
  refine ⟨⟨by decide, by show (0 : Int) < 3; decide⟩, ?_⟩
  (conv => whnf)
  refine ⟨_, rfl, ?_⟩
  (conv => whnf)
  refine ⟨q1, ?_⟩
  (conv => whnf)
  refine ⟨⟨by decide, by show (1 : Int) < 3; decide⟩, ?_⟩
  (conv => whnf)
  refine ⟨_, rfl, ?_⟩
  (conv => whnf)
  refine ⟨q2, ?_⟩
  (conv => whnf)
  rw [hsd]
  refine And.intro ?_ ?_ <;> (conv => whnf)
  rotate_left
  ·exact trivial
  refine ⟨⟨trivial, rfl, rfl, rfl, trivial⟩, ?_⟩
  (conv => whnf)
  exact ⟨⟨_, _, _, _, _, _, rfl, hbP2, hbT2⟩, hleE.trans hle13, rfl⟩
end Go.Kx.Jw
namespace Go.Kx.Jw
open Go.Proofs Go.Kx Go.RowKit Go.Kx.Js Go.Kx.Pr Go.Kx.Rt Go.Kx.Ob Go.Kx.Wo Go.Kx.Cl Go.Kx.Pa Go.Kx.En Go.Kx.Sha Go.Kx.Ro Go.Kx.Su
set_option maxRecDepth 20000
set_option linter.unusedSimpArgs false
def pB (cs : List SC) : SB := .box 95 cs
def eB (e : Int) : SB := .box 35 [.val (.int .i64 e)]
def zP : List SC := [.val (.string ⟨#[]⟩), .val (.string ⟨#[]⟩), .val (.slice none 0 0), .val (.string ⟨#[]⟩), .val (.slice none 0 0)]
theorem catchYes (e : Int) (H : Hp) : CallDO Tryz.prog 157 [.si (.ce (.ptr 0 0)), .si (.ce (.ptr 1 0))] (.panicking [⟨brokenV e, false, false⟩]) H [pB zP, eB 0] fun u H' G' => u = .panicking [⟨brokenV e, true, false⟩] ∧ H' = H ∧ G' = [pB zP, eB e] := by
 refine CallDO.of_body tab Tryz.func157 rfl rfl rfl rfl (nt := Tryz.f157.ntmps) rfl (by kernel_rfl) ?_
 (conv => whnf)
 refine WS.draw tab mixed (.take 0 (.take 1 (.take 2 (.alt 3 (.alt 4 .done .no) .no)))) (by kernel_rfl) [0, 1] ?_
 (conv => whnf)
 repeat' (first
  | exact trivial
  | exact rfl
  | exact ⟨trivial, trivial, rfl, trivial⟩
  | exact ⟨rfl, rfl, rfl⟩
  | (refine And.intro ?_ ?_ <;> (conv => whnf)))
theorem catchNo (b : List SC) (H : Hp) : CallDO Tryz.prog 157 [.si (.ce (.ptr 0 0)), .si (.ce (.ptr 1 0))] .returning H [pB b, eB 0] fun u H' G' => u = .returning ∧ H' = H ∧ G' = [pB b, eB 0] := by
 refine CallDO.of_body tab Tryz.func157 rfl rfl rfl rfl (nt := Tryz.f157.ntmps) rfl (by kernel_rfl) ?_
 (conv => whnf)
 try split
 all_goals exact ⟨rfl, rfl, rfl⟩
def RTk (x : Except Int Tok) (e : SE) (H' : Hp) : Prop := match x with
 | .ok t => ∃ A n c B m d, e = .ret (.tu [.ag [.val (.string t.kid), .val (.string t.typ), .val (.slice A n c), .val (.string ⟨t.signed.toArray⟩), .val (.slice B m d)], .ce (.val (.int .i64 0))]) ∧ BytesAt H' A n t.payload ∧ BytesAt H' B m t.tag
 | .error x => e = .ret (.tu [.ag zP, .ce (.val (.int .i64 x))])
theorem caught_ (s : ByteArray) (hs : s.size ≤ 1000000) (H : Hp) : CallO Tryz.prog 126 [.si (.ce (.fn (.func 127) 0 [])), pv (.string s)] H [] fun e H' G' => RTk (partsP s) e H' ∧ H.Le H' ∧ G' = [] := by
 have hp := parts_ s hs
 generalize partsP s = X at hp ⊢
 refine CallO.of_bodyD tab Tryz.func126 rfl (pre := [_]) rfl rfl rfl (nt := Tryz.f126.ntmps) rfl (by kernel_rfl) [4, 5] ?_
 (conv => whnf)
 refine ⟨⟨_, Tryz.func157, rfl, by kernel_rfl⟩, ?_⟩
 (conv => whnf)
 intro ds vs
 (conv => whnf)
 refine ⟨⟨_, Tryz.func127, rfl, by kernel_rfl⟩, CallS.use (hp H) [] rfl rfl trivial ?_⟩
 rintro e H2 G' hle2 ⟨hout, hle2', rfl⟩
 cases X with
 | error x =>
  obtain rfl := hout
  (conv => whnf)
  refine CallDS.use (catchYes x H2) ?_
  rintro u' H3 G' hle3 ⟨rfl, rfl, rfl⟩
  (conv => whnf)
  exact ⟨rfl, hle2, rfl⟩
 | ok tk =>
  obtain ⟨A, n, c, B, m, d, rfl, hb1, hb2⟩ := hout
  (conv => whnf)
  refine CallDS.use (catchNo _ H2) ?_
  rintro u' H3 G' hle3 ⟨rfl, rfl, rfl⟩
  (conv => whnf)
  exact ⟨⟨_, _, _, _, _, _, rfl, hb1, hb2⟩, hle2, rfl⟩
theorem parse_ (s : ByteArray) (hs : s.size ≤ 1000000) (H : Hp) : CallO Tryz.prog 89 [pv (.string s)] H [] fun e H' G' => RTk (partsP s) e H' ∧ H.Le H' ∧ G' = [] := by
 have hp := caught_ s hs
 generalize partsP s = X at hp ⊢
 refine CallO.of_body tab Tryz.func89 rfl (nt := Tryz.f89.ntmps) rfl (by kernel_rfl) ?_
 (conv => whnf)
 refine ⟨⟨_, Tryz.func126, rfl, by kernel_rfl⟩, CallS.use (hp H) [] rfl rfl trivial ?_⟩
 rintro e H2 G' hle2 ⟨hout, hle2', rfl⟩
 cases X with
 | error x =>
  obtain rfl := hout
  (conv => whnf)
  exact ⟨rfl, hle2, rfl⟩
 | ok tk =>
  obtain ⟨A, n, c, B, m, d, rfl, hb1, hb2⟩ := hout
  (conv => whnf)
  exact ⟨⟨_, _, _, _, _, _, rfl, hb1, hb2⟩, hle2, rfl⟩
end Go.Kx.Jw
