/- Whom an event is about: an address; which subjects are right; the members' names. No condition of its own. -/
import Derived.Test.YthffabmjfnnnaaaGreatDoorMQ13
namespace Go.Kx.Su
open Go.Proofs Go.Kx Go.RowKit Go.Kx.Js Go.Kx.Pr Go.Kx.Rt Go.Kx.Ob Go.Kx.Wo Go.Kx.Cl Go.Kx.Pa
set_option maxRecDepth 20000
set_option linter.unusedSimpArgs false
def T : Tab := [(26, { k := TK.st [(0, 9, 1), (1, 9, 1), (2, 9, 1)], agg := true, size := 3, bytes := 48, zero := [Z.s, Z.s, Z.s] }), (9, { k := TK.string, agg := false, size := 1, bytes := 16, zero := [Z.s] }), (107, { k := TK.st [(0, 9, 1), (1, 77, 5)], agg := true, size := 6, bytes := 96, zero := [Z.s, Z.i IntKind.i64, Z.b, Z.s, Z.sl, Z.sl] }), (77, { k := TK.st [(0, 3, 1), (1, 4, 1), (2, 9, 1), (3, 74, 1), (4, 75, 1)], agg := true, size := 5, bytes := 80, zero := [Z.i IntKind.i64, Z.b, Z.s, Z.sl, Z.sl] }), (40, { k := TK.int IntKind.i64, agg := false, size := 1, bytes := 8, zero := [Z.i IntKind.i64] }), (4, { k := TK.bool, agg := false, size := 1, bytes := 1, zero := [Z.b] }), (75, { k := TK.slice 107, agg := false, size := 1, bytes := 24, zero := [Z.sl] }), (149, { k := TK.slice 9, agg := false, size := 1, bytes := 24, zero := [Z.sl] }), (3, { k := TK.int IntKind.i64, agg := false, size := 1, bytes := 8, zero := [Z.i IntKind.i64] }), (5, { k := TK.int IntKind.u8, agg := false, size := 1, bytes := 1, zero := [Z.i IntKind.u8] }), (74, { k := TK.slice 77, agg := false, size := 1, bytes := 24, zero := [Z.sl] })]
set_option maxRecDepth 100000 in
theorem tab : TabOk Tryz.prog T := tabOk_mk (ts := [26, 9, 107, 77, 40, 4, 75, 149, 3, 5, 74]) (by kernel_rfl)
theorem mixed : Tryz.prog.follows .mixedOrders = true := by kernel_rfl
def agS (x : Sub) : SV := .si (.ag [.val (.string x.fmt), .val (.string x.id), .val (.string x.own)])
theorem count_ (s : ByteArray) (c : UInt8) (H : Hp) : CallO Tryz.prog 176 [pv (.string s), pv (.string ⟨#[c]⟩)] H [] fun e H' G' => e = .ret (pv (.int .i64 ((s.data.toList.count c : Nat) : Int))) ∧ H' = H ∧ G' = [] := by
 refine (CallO.of_calls (args := [.string s, .string ⟨#[c]⟩]) (R := fun v => v = .int .i64 ((s.data.toList.count c : Nat) : Int)) fun w _ _ => ?_).mono ?_
 ·refine (Any.strings_Count_one Tryz.laysCount s c w).mono fun e w' ⟨he, hw⟩ => ⟨_, he, ?_, ?_⟩
  ·rfl
  ·subst hw; exact grown_refl _
 ·rintro e H' G' hle ⟨v, rfl, rfl, rfl, rfl⟩
  exact ⟨rfl, rfl, rfl⟩
theorem address_ (s : ByteArray) (hs : s.size ≤ 1000000) (H : Hp) : CallO Tryz.prog 165 [pv (.string s)] H [] fun e H' G' => e = .ret (pv (.bool (addrP s))) ∧ H' = H ∧ G' = [] := by
 unfold addrP
 refine CallO.of_body tab Tryz.func165 rfl (nt := Tryz.f165.ntmps) rfl (by kernel_rfl) ?_
 (conv => whnf)
 refine ⟨⟨_, Tryz.func75, rfl, by kernel_rfl⟩, CallS.use (indexByte s 64 H []) [] rfl rfl trivial ?_⟩
 rintro e H1 G' hle ⟨rfl, rfl, rfl⟩
 generalize ixB s.data.toList 64 = i
 (conv => whnf)
 refine br.of (fun h1 => ?_) (fun h1 => ?_) <;> (conv => whnf)
 ·have h1' := of_decide_eq_true h1
  rw [decide_eq_true (show 0 < i by omega), Bool.true_and]
  rw [wrap64 (x := (s.size : Int) - 1) (by omega) (by omega)]
  refine br.of (fun h2 => ?_) (fun h2 => ?_) <;> (conv => whnf)
  ·have h2' := of_decide_eq_true h2
   rw [decide_eq_true (show i < (s.size : Int) - 1 by omega), Bool.true_and]
   refine ⟨⟨_, Tryz.func176, rfl, by kernel_rfl⟩, CallS.use (count_ s 64 H1) [] rfl rfl trivial ?_⟩
   rintro e H2 G' hle ⟨rfl, rfl, rfl⟩
   (conv => whnf)
   refine ⟨congrArg (fun b => SE.ret (pv (.bool b))) ?_, rfl, rfl⟩
   rw [Bool.eq_iff_iff, beq_iff_eq, beq_iff_eq]
   omega
  ·have h2' := of_decide_eq_false h2
   rw [decide_eq_false (show ¬ i < (s.size : Int) - 1 by omega), Bool.false_and]
   exact ⟨rfl, rfl, rfl⟩
 ·have h1' := of_decide_eq_false h1
  rw [decide_eq_false (show ¬ 0 < i by omega), Bool.false_and]
  exact ⟨rfl, rfl, rfl⟩
theorem right0 (f id own : ByteArray) (H : Hp) : CallO Tryz.prog 120 [.si (.ag [.val (.string f), .val (.string id), .val (.string own)])] H [] fun e _ G' => e = .ret (pv (.bool (subRight ⟨f, id, own⟩))) ∧ G' = [] := by
 unfold subRight
 dsimp only
 refine CallO.of_body tab Tryz.func120 rfl (nt := Tryz.f120.ntmps) rfl (by kernel_rfl) ?_
 (conv => whnf)
 refine br.of (fun h1 => ?_) (fun h1 => ?_) <;> (conv => whnf)
 ·rw [if_pos ((strEq_iff ..).1 h1)]
  refine ⟨⟨_, Tryz.func164, rfl, by kernel_rfl⟩, CallS.use (subWord id H) [] rfl rfl trivial ?_⟩
  rintro e H1 G' hle ⟨rfl, rfl⟩
  generalize hb : Wo.wordP 256 id = b
  cases b
  all_goals
   (conv => whnf)
   exact ⟨rfl, rfl⟩
 rw [if_neg (fun h => by rw [h, str_refl] at h1; cases h1)]
 refine br.of (fun h2 => ?_) (fun h2 => ?_) <;> (conv => whnf)
 ·rw [if_pos ((strEq_iff ..).1 h2)]
  refine ⟨⟨_, Tryz.func164, rfl, by kernel_rfl⟩, CallS.use (subWord id H) [] rfl rfl trivial ?_⟩
  rintro e H1 G' hle ⟨rfl, rfl⟩
  cases hb : Wo.wordP 256 id
  all_goals (conv => whnf)
  ·exact ⟨rfl, rfl⟩
  refine ⟨⟨_, Tryz.func165, rfl, by kernel_rfl⟩, CallS.use (address_ id (by have := (Jw.word_size hb).1; omega) H1) [] rfl rfl trivial ?_⟩
  rintro e H2 G' hle ⟨rfl, rfl, rfl⟩
  generalize addrP id = c
  cases c
  all_goals
   (conv => whnf)
   exact ⟨rfl, rfl⟩
 rw [if_neg (fun h => by rw [h, str_refl] at h2; cases h2)]
 refine br.of (fun h3 => ?_) (fun h3 => ?_) <;> (conv => whnf)
 ·rw [if_pos ((strEq_iff ..).1 h3)]
  refine ⟨⟨_, Tryz.func164, rfl, by kernel_rfl⟩, CallS.use (subWord id H) [] rfl rfl trivial ?_⟩
  rintro e H1 G' hle ⟨rfl, rfl⟩
  generalize hb : Wo.wordP 256 id = b
  cases b
  all_goals (conv => whnf)
  ·exact ⟨rfl, rfl⟩
  refine ⟨⟨_, Tryz.func164, rfl, by kernel_rfl⟩, CallS.use (subWord own H1) [] rfl rfl trivial ?_⟩
  rintro e H2 G' hle ⟨rfl, rfl⟩
  (conv => whnf)
  exact ⟨rfl, rfl⟩
 rw [if_neg (fun h => by rw [h, str_refl] at h3; cases h3)]
 exact ⟨rfl, rfl⟩
theorem right_ (x : Sub) (H : Hp) : CallO Tryz.prog 120 [agS x] H [] fun e _ G' => e = .ret (pv (.bool (subRight x))) ∧ G' = [] := right0 x.fmt x.id x.own H
def bL (l : List ByteArray) : List (List UInt8) := l.map fun s => s.data.toList
theorem names_ (f : ByteArray) (H : Hp) : CallO Tryz.prog 122 [pv (.string f)] H [] fun e H' G' => RetV (bL (namesOf f)) e H' ∧ G' = [] := by
 unfold namesOf
 refine CallO.of_body tab Tryz.func122 rfl (nt := Tryz.f122.ntmps) rfl (by kernel_rfl) ?_
 (conv => whnf)
 refine br.of (fun h1 => ?_) (fun h1 => ?_) <;> (conv => whnf)
 ·rw [if_pos ((strEq_iff ..).1 h1)]
  refine ⟨by decide, .inl ?_⟩
  intro g H2 hle hrd
  (conv => whnf)
  exact ⟨⟨_, _, _, rfl, rfl, fun e => (nomatch e), fun a e => by injection e with e; subst e; exact hrd⟩, rfl⟩
 rw [if_neg (fun h => by rw [h, str_refl] at h1; cases h1)]
 refine br.of (fun h2 => ?_) (fun h2 => ?_) <;> (conv => whnf)
 ·rw [if_pos ((strEq_iff ..).1 h2)]
  refine ⟨by decide, .inl ?_⟩
  intro g H2 hle hrd
  (conv => whnf)
  exact ⟨⟨_, _, _, rfl, rfl, fun e => (nomatch e), fun a e => by injection e with e; subst e; exact hrd⟩, rfl⟩
 rw [if_neg (fun h => by rw [h, str_refl] at h2; cases h2)]
 refine br.of (fun h3 => ?_) (fun h3 => ?_) <;> (conv => whnf)
 ·rw [if_pos ((strEq_iff ..).1 h3)]
  refine ⟨by decide, .inl ?_⟩
  intro g H2 hle hrd
  (conv => whnf)
  exact ⟨⟨_, _, _, rfl, rfl, fun e => (nomatch e), fun a e => by injection e with e; subst e; exact hrd⟩, rfl⟩
 rw [if_neg (fun h => by rw [h, str_refl] at h3; cases h3)]
 exact ⟨⟨_, _, _, rfl, rfl, fun _ => rfl, fun a e => (nomatch e)⟩, rfl⟩
theorem texts0 (f id own : ByteArray) (H : Hp) : CallO Tryz.prog 121 [.si (.ag [.val (.string f), .val (.string id), .val (.string own)])] H [] fun e H' G' => RetV (bL (textsOf ⟨f, id, own⟩)) e H' ∧ G' = [] := by
 unfold textsOf
 dsimp only
 refine CallO.of_body tab Tryz.func121 rfl (nt := Tryz.f121.ntmps) rfl (by kernel_rfl) ?_
 (conv => whnf)
 refine br.of (fun h1 => ?_) (fun h1 => ?_) <;> (conv => whnf)
 ·rw [if_pos ((strEq_iff ..).1 h1)]
  refine ⟨by decide, .inl ?_⟩
  intro g H2 hle hrd
  (conv => whnf)
  exact ⟨⟨_, _, _, rfl, rfl, fun e => (nomatch e), fun a e => by injection e with e; subst e; exact hrd⟩, rfl⟩
 rw [if_neg (fun h => by rw [h, str_refl] at h1; cases h1)]
 refine ⟨by decide, .inl ?_⟩
 intro g H2 hle hrd
 (conv => whnf)
 exact ⟨⟨_, _, _, rfl, rfl, fun e => (nomatch e), fun a e => by injection e with e; subst e; exact hrd⟩, rfl⟩
end Go.Kx.Su
namespace Go.Kx.Su
open Go.Proofs Go.Kx Go.RowKit Go.Kx.Js Go.Kx.Pr Go.Kx.Rt Go.Kx.Ob Go.Kx.Wo Go.Kx.Cl Go.Kx.Pa
set_option maxRecDepth 20000
set_option linter.unusedSimpArgs false
def RJ2 (x : J × Int) (e : SE) (H' : Hp) : Prop := ∃ k y t A n c B m f, e = .ret (.tu [.ag [.val (.int .i64 k), .val (.bool y), .val (.string t), .val (.slice A n c), .val (.slice B m f)], .ce (.val (.int .i64 x.2))]) ∧ JAt H' x.1 [.int .i64 k, .bool y, .string t, .slice A n c, .slice B m f]
def subValP (x : Sub) : J × Int := if subRight x then (subJ x, 0) else (jNone, 10)
theorem stC_bL (L : List ByteArray) : stC (bL L) = L.map Value.string := by
 unfold stC bL
 rw [List.map_map]
 refine List.map_congr_left fun x _ => ?_
 show Value.string ⟨x.data.toList.toArray⟩ = _
 cases x; simp
theorem names_len {x : Sub} (h : subRight x = true) : (namesOf x.fmt).length = (textsOf x).length ∧ (textsOf x).length ≤ 2 ∧ 0 < (textsOf x).length := by
 rcases sub_cases h with ⟨id, rfl, h1⟩ | ⟨id, rfl, h1, h2⟩ | ⟨id, own, rfl, h1, h2⟩
 ·exact ⟨rfl, Nat.le_succ _, Nat.zero_lt_succ _⟩
 ·exact ⟨rfl, Nat.le_succ _, Nat.zero_lt_succ _⟩
 ·exact ⟨rfl, Nat.le_refl _, Nat.zero_lt_succ _⟩
theorem objO (ms : Ms) (zs : List Value) (h0 : 0 < ms.length) (hml : ms.length ≤ 1000000) (H : Hp) (hm : MsAt H ms zs) : CallO Tryz.prog 46 [.si (.ce (.self 0))] H [.row 107 6 ms.length zs] fun e H' G' =>
  (∃ B d, e = .ret (agJ 6 false ⟨#[]⟩ none 0 0 B ms.length d) ∧ JAt H' (objJ ms) [.int .i64 6, .bool false, .string ⟨#[]⟩, .slice none 0 0, .slice B ms.length d]) ∧ G' = [.dead] := by
 refine CallO.eat 0 (t := 107) (sz := 6) (n := ms.length) (xs := zs) rfl (fun h => by omega) ?_
 intro x H2 hle hfr
 obtain ⟨A, cap, rfl, hv⟩ := Js.RdV.of_frozen hfr
 refine (CallS.use (obj_ ms hml A cap zs H2 (hm.mono hle) hv h0) [] rfl rfl trivial ?_).to
 rintro e H' G' hle2 ⟨⟨B, d, rfl, hj⟩, rfl⟩
 (conv => whnf)
 exact ⟨⟨B, d, rfl, hj⟩, rfl⟩
theorem value0 (f id own : ByteArray) (H : Hp) : CallO Tryz.prog 70 [.si (.ag [.val (.string f), .val (.string id), .val (.string own)])] H [] fun e H' G' => RJ2 (subValP ⟨f, id, own⟩) e H' ∧ H.Le H' ∧ G' = [] := by
 unfold subValP
 refine CallO.of_body tab Tryz.func70 rfl (nt := Tryz.f70.ntmps) rfl (by kernel_rfl) ?_
 (conv => whnf)
 refine ⟨⟨_, Tryz.func120, rfl, by kernel_rfl⟩, CallS.use (right0 f id own H) [] rfl rfl trivial ?_⟩
 rintro e H1 G' hle1 ⟨rfl, rfl⟩
 cases hr : subRight ⟨f, id, own⟩
 all_goals (conv => whnf)
 ·exact ⟨⟨_, _, _, _, _, _, _, _, _, rfl, .bare 0 false ⟨#[]⟩⟩, hle1, rfl⟩
 refine ⟨⟨_, Tryz.func48, rfl, by kernel_rfl⟩, CallS.use (Ob.str_ f H1) [] rfl rfl trivial ?_⟩
 rintro e H2 G' hle2 ⟨rfl, rfl, rfl⟩
 (conv => whnf)
 refine ⟨by decide, .inr ?_⟩
 refine ⟨rfl, ?_⟩
 (conv => whnf)
 refine ⟨⟨_, Tryz.func121, rfl, by kernel_rfl⟩, CallS.use (texts0 f id own H2) [] rfl rfl trivial ?_⟩
 rintro e H3 G' hle3 ⟨⟨B, m, cc, rfl, hv⟩, rfl⟩
 have hm : m = (textsOf ⟨f, id, own⟩).length := by have := hv.1; rw [stC_len] at this; simpa [bL] using this
 subst hm
 rw [stC_bL] at hv
 obtain ⟨n1, n2, n3⟩ := names_len hr
 have hle13 := (hle1.trans hle2).trans hle3
 have hms : subMs ⟨f, id, own⟩ = (sFormat, strJ f) :: List.zip (namesOf f) ((textsOf ⟨f, id, own⟩).map strJ) := rfl
 have hsubJ : subJ ⟨f, id, own⟩ = objJ (subMs ⟨f, id, own⟩) := rfl
 dsimp only at n1 n2 n3
 generalize textsOf ⟨f, id, own⟩ = L at *
 have hlen : (subMs ⟨f, id, own⟩).length = L.length + 1 := by rw [hms]; simp; omega
 (conv => whnf)
 refine WS.loop (fun k' F H4 G => ∃ (i : Nat) (zs : List Value), i ≤ L.length ∧ MsAt H4 ((subMs ⟨f, id, own⟩).take (i + 1)) zs ∧ k' = L.length - i ∧ F = [(1, .si (.ce (.ptr 0 0))), (2, .si (.ce (.ptr 1 0))), (3, pv (.int .i64 0)), (4, .si (.ce (.self 2))), (17, pv (.slice B L.length cc)), (18, pv (.int .i64 L.length)), (19, pv (.int .i64 i))] ∧ H3.Le H4 ∧ G = [.box 26 [.val (.string f), .val (.string id), .val (.string own)], .box 77 [.val (.int .i64 0), .val (.bool false), .val (.string ⟨#[]⟩), .val (.slice none 0 0), .val (.slice none 0 0)], .row 107 6 (i + 1) zs]) (L.length + 1) ?_ ?_
 ·have h0 : MsAt H3 ((subMs ⟨f, id, own⟩).take (0 + 1)) [.string sFormat, .int .i64 4, .bool false, .string f, .slice none 0 0, .slice none 0 0] := by rw [hms]; exact .cons (.bare 4 false f) .nil
  refine ⟨L.length, by omega, _, _, [0, 1, 2], ⟨0, [.string sFormat, .int .i64 4, .bool false, .string f, .slice none 0 0, .slice none 0 0], by omega, h0, rfl, rfl, .refl _, rfl⟩, ?_⟩
  exact ⟨rfl, ⟨rfl, rfl, rfl, trivial⟩, rfl, rfl, rfl, rfl, rfl, rfl, rfl, trivial⟩
 rintro k' F H4 G hle4 ⟨i, zs, hi, hmz, rfl, rfl, hle5, rfl⟩
 refine codeL.go tab ?_
 (conv => whnf)
 refine br.of (fun h7 => ?_) (fun h7 => ?_) <;> (conv => whnf)
 ·have h7 := of_decide_eq_true h7
  have hil : i < L.length := by omega
  have hgetL : (L.map Value.string)[i]? = some (.string (L[i]'hil)) := by simp [hil]
  have hmem : (subMs ⟨f, id, own⟩)[i + 1]? = some ((namesOf f)[i]'(by omega), strJ (L[i]'hil)) := by rw [hms]; simp [hil, List.getElem?_zip_eq_some, n1]
  have hnm : (stC (bL (namesOf f)))[i]? = some (.string ((namesOf f)[i]'(by omega))) := by rw [stC_bL]; simp [n1, hil]
  generalize L[i]'hil = tx at *
  generalize (namesOf f)[i]'(by omega) = nm at *
  have hzl := hmz.length
  have htake : (subMs ⟨f, id, own⟩).take (i + 1 + 1) = (subMs ⟨f, id, own⟩).take (i + 1) ++ [(nm, strJ tx)] := by rw [List.take_add_one, hmem]; rfl
  refine ⟨⟨by omega, by omega⟩, hv.addr (by omega), ?_⟩
  (conv => whnf)
  refine ⟨_, (hv.mono hle5).get hgetL (by show (i : Int).toNat * 1 = i; omega), ?_⟩
  (conv => whnf)
  refine WS.draw tab mixed (.take 0 (.take 1 (.take 2 (.take 4 (.take 7 (.alt 3 (.alt 5 (.alt 6 (.alt 8 (.take 9 (.alt 10 (.alt 11 (.take 12 .done) .no) .no)) .no) (.alt 8 (.alt 6 (.take 9 (.alt 10 (.alt 11 (.take 12 .done) .no) .no)) .no) .no)) (.alt 8 (.alt 5 (.alt 6 (.take 9 (.alt 10 (.alt 11 (.take 12 .done) .no) .no)) .no) .no) .no)) .no)))))) (by kernel_rfl) [2] ?_
  (conv => whnf)
  refine And.intro ?_ ?_ <;> (conv => whnf)
  rotate_left
  ·exact trivial
  refine ⟨⟨_, Tryz.func122, rfl, by kernel_rfl⟩, CallS.use (names_ f H4) [] rfl rfl trivial ?_⟩
  rintro e H5 G' hle6 ⟨⟨B2, m2, c2, rfl, hv2⟩, rfl⟩
  have hm2 : m2 = L.length := by have := hv2.1; rw [stC_len] at this; simpa [bL, n1] using this
  subst hm2
  (conv => whnf)
  have hB : ∀ {m2 : Nat} {B2 : Option Addr} {H5 : Hp}, VAt H5 B2 m2 (stC (bL (namesOf f))) → m2 = L.length := fun h => by have := h.1; rw [stC_len] at this; simpa [bL, n1] using this
  have ho : (i : Int).toNat * 1 = i := by omega
  have hone : ∀ u ∈ [Value.string nm, .int .i64 4, .bool false, .string tx, .slice none 0 0, .slice none 0 0], u.oneCell' = true := fun u hu => by simp only [List.mem_cons, List.mem_nil_iff, or_false] at hu; rcases hu with rfl | rfl | rfl | rfl | rfl | rfl <;> rfl
  repeat' (first
   | exact trivial
   | exact rfl
   | exact ⟨rfl, rfl, rfl, trivial⟩
   | exact ⟨_, Tryz.func122, rfl, by kernel_rfl⟩
   | exact ⟨_, Tryz.func48, rfl, by kernel_rfl⟩
   | (refine CallS.use (names_ f H4) [] rfl rfl trivial ?_; rintro e H5 G' hle6 ⟨⟨B2, m2, c2, rfl, hv2⟩, rfl⟩; obtain rfl := hB hv2; (conv => whnf))
   | (refine CallS.use (Ob.str_ tx _) [] rfl rfl trivial ?_; rintro e H6 G' hle7 ⟨rfl, rfl, rfl⟩; (conv => whnf))
   | exact ⟨by omega, by omega⟩
   | exact hv2.addr (by omega)
   | (refine ⟨_, hv2.get hnm ho, ?_⟩; (conv => whnf))
   | exact Nat.le_of_ble_eq_true rfl
   | (refine .inl ?_; intro g H7 hle8 hrd; (conv => whnf))
   | (refine ⟨_, rfl, hrd, hone, ?_⟩; (conv => whnf))
   | (refine ⟨by show (i + 1 + 1) * 97 ≤ _; omega, ?_⟩; (conv => whnf))
   | (refine And.intro ?_ ?_ <;> (conv => whnf)))
  all_goals
   have hle38 := ((hle5.trans hle6).trans hle7).trans hle8
   have hms2 : MsAt H7 ((subMs ⟨f, id, own⟩).take (i + 1 + 1)) (zs ++ [.string nm, .int .i64 4, .bool false, .string tx, .slice none 0 0, .slice none 0 0]) := by
    rw [htake]
    exact (hmz.mono ((hle6.trans hle7).trans hle8)).snoc (.bare 4 false tx)
   rw [wrap64 (x := (i : Int) + 1) (by omega) (by omega)]
   refine ⟨L.length - (i + 1), by omega, _, _, [0, 1, 3], ⟨i + 1, _, by omega, hms2, rfl, rfl, hle38, rfl⟩, ?_⟩
   exact ⟨rfl, ⟨rfl, rfl, rfl, trivial⟩, rfl, rfl, rfl, rfl, rfl, rfl, rfl, trivial⟩
 ·have h7 := of_decide_eq_false h7
  obtain rfl : i = L.length := by omega
  rw [List.take_of_length_le (by omega)] at hmz
  have hmz2 : MsAt H4 (subMs ⟨f, id, own⟩) zs := hmz
  have hrow : SB.row 107 6 (L.length + 1) zs = .row 107 6 (subMs ⟨f, id, own⟩).length zs := by rw [hlen]
  refine ⟨⟨_, Tryz.func46, rfl, by kernel_rfl⟩, ?_⟩
  rw [hrow]
  refine CallS.use (objO (subMs ⟨f, id, own⟩) zs (by omega) (by omega) H4 hmz2) [2] rfl rfl ⟨rfl, trivial⟩ ?_
  rintro e H8 G' hle9 ⟨⟨B3, d3, rfl, hj⟩, rfl⟩
  (conv => whnf)
  exact ⟨⟨_, _, _, _, _, _, _, _, _, rfl, hj⟩, (hle13.trans hle5).trans hle9, rfl⟩
theorem value_ (x : Sub) (H : Hp) : CallO Tryz.prog 70 [agS x] H [] fun e H' G' => RJ2 (subValP x) e H' ∧ H.Le H' ∧ G' = [] := value0 x.fmt x.id x.own H
end Go.Kx.Su
namespace Go.Kx.Su
open Go.Proofs Go.Kx Go.RowKit Go.Kx.Js Go.Kx.Pr Go.Kx.Rt Go.Kx.Ob Go.Kx.Wo Go.Kx.Cl Go.Kx.Pa
set_option maxRecDepth 20000
set_option linter.unusedSimpArgs false
theorem sm_len {j : J} (h : smJ j) : j.mems.length ≤ 1000000 := by
 obtain ⟨k, y, t, js, ms⟩ := j
 exact h.2.2.1
theorem member_ (j : J) (hl : j.mems.length ≤ 1000000) (s : ByteArray) (k : Int) (y : Bool) (t : ByteArray) (A : Option Addr) (n c : Nat) (B : Option Addr) (m d : Nat) (H : Hp) (hj : JAt H j [.int .i64 k, .bool y, .string t, .slice A n c, .slice B m d]) :
  CallO Tryz.prog 154 [agJ k y t A n c B m d, pv (.string s)] H [] fun e H' G' => e = .ret (.tu [.ce (.val (.string (memT j s).1)), .ce (.val (.bool (memT j s).2))]) ∧ H' = H ∧ G' = [] := by
 unfold memT
 refine CallO.of_body tab Tryz.func154 rfl (nt := Tryz.f154.ntmps) rfl (by kernel_rfl) ?_
 (conv => whnf)
 refine ⟨⟨_, Tryz.func102, rfl, by kernel_rfl⟩, CallS.use (get_ j k y t A n c B m d s H hj hl) [] rfl rfl trivial ?_⟩
 rintro e H1 G' hle1 ⟨rfl, hg, rfl⟩
 cases hgj : j.get s with
 | none =>
  rw [hgj] at hg
  obtain rfl := hg
  (conv => whnf)
  refine WS.draw tab mixed (.take 0 (.take 1 (.take 2 (.take 3 (.take 4 (.take 5 (.take 6 (.take 7 (.take 8 (.take 9 .done)))))))))) (by kernel_rfl) [] ?_
  (conv => whnf)
  repeat' (first
   | exact trivial
   | exact rfl
   | exact ⟨rfl, rfl, rfl⟩
   | (refine And.intro ?_ ?_ <;> (conv => whnf)))
 | some q =>
  rw [hgj] at hg
  obtain ⟨k2, y2, t2, A2, n2, c2, B2, m2, d2, rfl, hj2⟩ := hg
  obtain ⟨rfl, rfl⟩ : k2 = q.kind ∧ t2 = q.text := by cases hj2; exact ⟨rfl, rfl⟩
  (conv => whnf)
  refine WS.draw tab mixed (.take 0 (.take 1 (.take 2 (.take 3 (.take 4 (.take 5 (.take 6 (.take 7 (.take 8 (.take 9 .done)))))))))) (by kernel_rfl) [] ?_
  (conv => whnf)
  repeat' (first
   | exact trivial
   | exact rfl
   | exact ⟨rfl, rfl, rfl⟩
   | (refine And.intro ?_ ?_ <;> (conv => whnf)))
def RS (x : Sub × Int) (e : SE) : Prop := e = .ret (.tu [.ag [.val (.string x.1.fmt), .val (.string x.1.id), .val (.string x.1.own)], .ce (.val (.int .i64 x.2))])
theorem of_ (j : J) (hs : smJ j) (k : Int) (y : Bool) (t : ByteArray) (A : Option Addr) (n c : Nat) (B : Option Addr) (m d : Nat) (H : Hp) (hj : JAt H j [.int .i64 k, .bool y, .string t, .slice A n c, .slice B m d]) :
  CallO Tryz.prog 104 [agJ k y t A n c B m d] H [] fun e H' G' => RS (subOf j) e ∧ H.Le H' ∧ G' = [] := by
 have hl := sm_len hs
 have hmd : m = j.mems.length := by cases hj; assumption
 unfold subOf
 refine CallO.of_body tab Tryz.func104 rfl (nt := Tryz.f104.ntmps) rfl (by kernel_rfl) ?_
 (conv => whnf)
 refine ⟨⟨_, Tryz.func154, rfl, by kernel_rfl⟩, CallS.use (member_ j hl sFormat k y t A n c B m d H hj) [] rfl rfl trivial ?_⟩
 rintro e H1 G' hle1 ⟨rfl, rfl, rfl⟩
 generalize (memT j sFormat).1 = f
 cases hok : (memT j sFormat).2
 all_goals (conv => whnf)
 all_goals refine ⟨⟨_, Tryz.func122, rfl, by kernel_rfl⟩, CallS.use (names_ f H1) [] rfl rfl trivial ?_⟩
 all_goals rintro e H2 G' hle2 ⟨⟨B2, m2, c2, rfl, hv2⟩, rfl⟩
 all_goals (conv => whnf)
 ·exact ⟨rfl, hle2, rfl⟩
 have hm2 : m2 = (namesOf f).length := by have := hv2.1; rw [stC_len] at this; simpa [bL] using this
 have hc : f = sOpaque ∨ f = sEmail ∨ f = sIssSub ∨ namesOf f = [] := by
  unfold namesOf
  by_cases h1 : f = sOpaque
  ·exact .inl h1
  by_cases h2 : f = sEmail
  ·exact .inr (.inl h2)
  by_cases h3 : f = sIssSub
  ·exact .inr (.inr (.inl h3))
  rw [if_neg h1, if_neg h2, if_neg h3]
  exact .inr (.inr (.inr rfl))
 rw [if_neg (by decide)]
 have noneed : ∀ {f : ByteArray}, namesOf f = [] → (if namesOf f = [] then (sub0, 42) else
  if rightJ j = false ∨ List.length j.mems ≠ (namesOf f).length + 1 then (sub0, 10) else
  if f = sIssSub then (if ((memT j sSub).snd && (memT j sIss).snd && subRight { fmt := f, id := (memT j sSub).fst, own := (memT j sIss).fst }) = true then ({ fmt := f, id := (memT j sSub).fst, own := (memT j sIss).fst }, 0) else (sub0, 10)) else
  if ((memT j ((namesOf f).getD 0 { data := #[] })).snd && subRight { fmt := f, id := (memT j ((namesOf f).getD 0 { data := #[] })).fst, own := { data := #[] } }) = true then ({ fmt := f, id := (memT j ((namesOf f).getD 0 { data := #[] })).fst, own := { data := #[] } }, 0) else (sub0, 10)) = ((sub0, 42) : Sub × Int) := fun h => if_pos h
 rcases hc with rfl | rfl | rfl | hf
 rotate_right
 ·rw [noneed hf]
  rw [hf] at hm2
  obtain rfl : m2 = 0 := hm2
  (conv => whnf)
  exact ⟨rfl, hle2, rfl⟩
 ·rw [if_neg (by decide), if_neg (show ¬ sOpaque = sIssSub by decide)]
  obtain rfl : m2 = 1 := hm2
  have e0 : (namesOf sOpaque).length + 1 = 2 := rfl
  have w2 : IntKind.i64.wrap (((1 : Nat) : Int) + 1) = 2 := by decide
  have w0 : IntKind.i64.wrap (((1 : Nat) : Int) - 1) = 1 - 1 := by decide
  have hget : (stC (bL (namesOf sOpaque)))[1 - 1]? = some (.string sId) := rfl
  rw [e0, show (namesOf sOpaque).getD 0 ⟨#[]⟩ = sId from rfl]
  (conv => whnf)
  refine ⟨⟨_, Tryz.func65, rfl, by kernel_rfl⟩, CallS.use (Rt.right_ _ j (Nat.lt_succ_self _) hs k y t A n c B m d H2 (hj.mono hle2)) [] rfl rfl trivial ?_⟩
  rintro e H3 G' hle3 ⟨rfl, hle4, rfl⟩
  cases hrj : rightJ j
  all_goals (conv => whnf)
  ·exact ⟨rfl, hle2.trans hle3, rfl⟩
  rw [w2]
  refine br.of (fun h5 => ?_) (fun h5 => ?_) <;> (conv => whnf)
  ·simp only [bne_iff_ne, ne_eq] at h5
   rw [if_pos (.inr (by omega))]
   exact ⟨rfl, hle2.trans hle3, rfl⟩
  simp only [bne_eq_false_iff_eq] at h5
  have hno : ¬ (true = false ∨ j.mems.length ≠ 2) := by
   rintro (h | h)
   ·cases h
   ·omega
  rw [if_neg hno]
  have hmem := fun H3 (hle : H2.Le H3) => member_ j hl sId k y t A n c B m d H3 ((hj.mono hle2).mono hle)
  have hfin := hle2.trans hle3
  generalize memT j sId = p at hmem ⊢
  obtain ⟨q, b⟩ := p
  cases b
  all_goals
   refine WS.draw tab mixed (.take 0 (.take 1 (.take 2 (.take 3 (.take 4 (.take 5 (.take 6 (.alt 7 (.take 8 (.take 9 (.take 10 (.take 11 (.alt 12 (.take 13 .done) .no))))) .no)))))))) (by kernel_rfl) [2] ?_
   (conv => whnf)
   refine ⟨by rw [w0]; decide, hv2.addr (by decide), ?_⟩
   (conv => whnf)
   refine ⟨_, ((hv2.mono hle3).get hget (by show (IntKind.i64.wrap _).toNat * 1 = _; rw [w0]; rfl)), ?_⟩
   (conv => whnf)
   repeat' (first
    | exact trivial
    | exact rfl
    | exact ⟨rfl, rfl, trivial⟩
    | exact ⟨rfl, hfin, rfl⟩
    | exact ⟨_, Tryz.func154, rfl, by kernel_rfl⟩
    | exact ⟨_, Tryz.func120, rfl, by kernel_rfl⟩
    | (refine CallS.use (hmem _ hle3) [] rfl rfl trivial ?_; rintro e H4 G' hle5 ⟨rfl, rfl, rfl⟩; (conv => whnf))
    | (refine CallS.use (right0 sOpaque q ⟨#[]⟩ _) [] rfl rfl trivial ?_; rintro e H5 G' hle6 ⟨rfl, rfl⟩; have hfin := hfin.trans hle6; cases subRight ⟨sOpaque, q, ⟨#[]⟩⟩ <;> (conv => whnf))
    | (refine And.intro ?_ ?_ <;> (conv => whnf)))
 ·rw [if_neg (by decide), if_neg (show ¬ sEmail = sIssSub by decide)]
  obtain rfl : m2 = 1 := hm2
  have e0 : (namesOf sEmail).length + 1 = 2 := rfl
  have w2 : IntKind.i64.wrap (((1 : Nat) : Int) + 1) = 2 := by decide
  have w0 : IntKind.i64.wrap (((1 : Nat) : Int) - 1) = 1 - 1 := by decide
  have hget : (stC (bL (namesOf sEmail)))[1 - 1]? = some (.string sEmail) := rfl
  rw [e0, show (namesOf sEmail).getD 0 ⟨#[]⟩ = sEmail from rfl]
  (conv => whnf)
  refine ⟨⟨_, Tryz.func65, rfl, by kernel_rfl⟩, CallS.use (Rt.right_ _ j (Nat.lt_succ_self _) hs k y t A n c B m d H2 (hj.mono hle2)) [] rfl rfl trivial ?_⟩
  rintro e H3 G' hle3 ⟨rfl, hle4, rfl⟩
  cases hrj : rightJ j
  all_goals (conv => whnf)
  ·exact ⟨rfl, hle2.trans hle3, rfl⟩
  rw [w2]
  refine br.of (fun h5 => ?_) (fun h5 => ?_) <;> (conv => whnf)
  ·simp only [bne_iff_ne, ne_eq] at h5
   rw [if_pos (.inr (by omega))]
   exact ⟨rfl, hle2.trans hle3, rfl⟩
  simp only [bne_eq_false_iff_eq] at h5
  have hno : ¬ (true = false ∨ j.mems.length ≠ 2) := by
   rintro (h | h)
   ·cases h
   ·omega
  rw [if_neg hno]
  have hmem := fun H3 (hle : H2.Le H3) => member_ j hl sEmail k y t A n c B m d H3 ((hj.mono hle2).mono hle)
  have hfin := hle2.trans hle3
  generalize memT j sEmail = p at hmem ⊢
  obtain ⟨q, b⟩ := p
  cases b
  all_goals
   refine WS.draw tab mixed (.take 0 (.take 1 (.take 2 (.take 3 (.take 4 (.take 5 (.take 6 (.alt 7 (.take 8 (.take 9 (.take 10 (.take 11 (.alt 12 (.take 13 .done) .no))))) .no)))))))) (by kernel_rfl) [2] ?_
   (conv => whnf)
   refine ⟨by rw [w0]; decide, hv2.addr (by decide), ?_⟩
   (conv => whnf)
   refine ⟨_, ((hv2.mono hle3).get hget (by show (IntKind.i64.wrap _).toNat * 1 = _; rw [w0]; rfl)), ?_⟩
   (conv => whnf)
   repeat' (first
    | exact trivial
    | exact rfl
    | exact ⟨rfl, rfl, trivial⟩
    | exact ⟨rfl, hfin, rfl⟩
    | exact ⟨_, Tryz.func154, rfl, by kernel_rfl⟩
    | exact ⟨_, Tryz.func120, rfl, by kernel_rfl⟩
    | (refine CallS.use (hmem _ hle3) [] rfl rfl trivial ?_; rintro e H4 G' hle5 ⟨rfl, rfl, rfl⟩; (conv => whnf))
    | (refine CallS.use (right0 sEmail q ⟨#[]⟩ _) [] rfl rfl trivial ?_; rintro e H5 G' hle6 ⟨rfl, rfl⟩; have hfin := hfin.trans hle6; cases subRight ⟨sEmail, q, ⟨#[]⟩⟩ <;> (conv => whnf))
    | (refine And.intro ?_ ?_ <;> (conv => whnf)))
 ·rw [if_neg (by decide), if_pos (show sIssSub = sIssSub from rfl)]
  obtain rfl : m2 = 2 := hm2
  have e0 : (namesOf sIssSub).length + 1 = 3 := rfl
  have w2 : IntKind.i64.wrap (((2 : Nat) : Int) + 1) = 3 := by decide
  have w0 : IntKind.i64.wrap (((2 : Nat) : Int) - 1) = 2 - 1 := by decide
  have hget : (stC (bL (namesOf sIssSub)))[2 - 1]? = some (.string sSub) := rfl
  rw [e0]
  (conv => whnf)
  refine ⟨⟨_, Tryz.func65, rfl, by kernel_rfl⟩, CallS.use (Rt.right_ _ j (Nat.lt_succ_self _) hs k y t A n c B m d H2 (hj.mono hle2)) [] rfl rfl trivial ?_⟩
  rintro e H3 G' hle3 ⟨rfl, hle4, rfl⟩
  cases hrj : rightJ j
  all_goals (conv => whnf)
  ·exact ⟨rfl, hle2.trans hle3, rfl⟩
  rw [w2]
  refine br.of (fun h5 => ?_) (fun h5 => ?_) <;> (conv => whnf)
  ·simp only [bne_iff_ne, ne_eq] at h5
   rw [if_pos (.inr (by omega))]
   exact ⟨rfl, hle2.trans hle3, rfl⟩
  simp only [bne_eq_false_iff_eq] at h5
  have hno : ¬ (true = false ∨ j.mems.length ≠ 3) := by
   rintro (h | h)
   ·cases h
   ·omega
  rw [if_neg hno]
  have hmem := fun H3 (hle : H2.Le H3) => member_ j hl sSub k y t A n c B m d H3 ((hj.mono hle2).mono hle)
  have hfin := hle2.trans hle3
  have hget2 : (stC (bL (namesOf sIssSub)))[0]? = some (.string sIss) := rfl
  have hmem2 := fun H3 (hle : H2.Le H3) => member_ j hl sIss k y t A n c B m d H3 ((hj.mono hle2).mono hle)
  generalize memT j sSub = p at hmem ⊢
  generalize memT j sIss = p2 at hmem2 ⊢
  obtain ⟨q, b⟩ := p
  obtain ⟨q2, b2⟩ := p2
  cases b <;> cases b2
  all_goals
   refine WS.draw tab mixed (.take 0 (.take 1 (.take 2 (.take 3 (.take 4 (.take 5 (.take 6 (.alt 7 (.take 8 (.take 9 (.take 10 (.take 11 (.alt 12 (.take 13 .done) .no))))) .no)))))))) (by kernel_rfl) [2] ?_
   (conv => whnf)
   refine ⟨by rw [w0]; decide, hv2.addr (by decide), ?_⟩
   (conv => whnf)
   refine ⟨_, ((hv2.mono hle3).get hget (by show (IntKind.i64.wrap _).toNat * 1 = _; rw [w0]; rfl)), ?_⟩
   (conv => whnf)
   repeat' (first
    | exact trivial
    | exact rfl
    | exact ⟨rfl, rfl, trivial⟩
    | exact ⟨rfl, hfin, rfl⟩
    | exact ⟨_, Tryz.func154, rfl, by kernel_rfl⟩
    | exact ⟨_, Tryz.func120, rfl, by kernel_rfl⟩
    | (refine CallS.use (hmem _ hle3) [] rfl rfl trivial ?_; rintro e H4 G' hle5 ⟨rfl, rfl, rfl⟩; (conv => whnf))
    | (refine ⟨⟨by decide, by decide⟩, hv2.addr (by decide), ?_⟩; (conv => whnf))
    | (refine ⟨_, ((hv2.mono hle3).get hget2 rfl), ?_⟩; (conv => whnf))
    | (refine WS.draw tab mixed (.take 0 (.take 1 (.take 2 (.take 3 (.alt 4 (.take 5 (.take 6 (.take 7 (.take 8 (.alt 9 (.take 10 .done) .no))))) .no))))) (by kernel_rfl) [2] ?_; (conv => whnf))
    | (refine CallS.use (hmem2 _ hle3) [] rfl rfl trivial ?_; rintro e H4 G' hle5 ⟨rfl, rfl, rfl⟩; (conv => whnf))
    | (refine CallS.use (right0 sIssSub q q2 _) [] rfl rfl trivial ?_; rintro e H5 G' hle6 ⟨rfl, rfl⟩; have hfin := hfin.trans hle6; cases subRight ⟨sIssSub, q, q2⟩ <;> (conv => whnf))
    | (refine And.intro ?_ ?_ <;> (conv => whnf)))
end Go.Kx.Su
namespace Go.Kx.Se
open Go.Proofs Go.Kx Go.RowKit Go.Kx.Js Go.Kx.Pr Go.Kx.Rt Go.Kx.Ob Go.Kx.Wo Go.Kx.Cl Go.Kx.Pa Go.Kx.Su
set_option maxRecDepth 20000
set_option linter.unusedSimpArgs false
def T : Tab := [(28, { k := TK.st [(0, 9, 1), (1, 9, 1), (2, 9, 1), (3, 3, 1), (4, 9, 1), (5, 26, 3), (8, 3, 1), (9, 9, 1)], agg := true, size := 10, bytes := 144, zero := [Z.s, Z.s, Z.s, Z.i IntKind.i64, Z.s, Z.s, Z.s, Z.s, Z.i IntKind.i64, Z.s] }), (26, { k := TK.st [(0, 9, 1), (1, 9, 1), (2, 9, 1)], agg := true, size := 3, bytes := 48, zero := [Z.s, Z.s, Z.s] }), (9, { k := TK.string, agg := false, size := 1, bytes := 16, zero := [Z.s] }), (107, { k := TK.st [(0, 9, 1), (1, 77, 5)], agg := true, size := 6, bytes := 96, zero := [Z.s, Z.i IntKind.i64, Z.b, Z.s, Z.sl, Z.sl] }), (77, { k := TK.st [(0, 3, 1), (1, 4, 1), (2, 9, 1), (3, 74, 1), (4, 75, 1)], agg := true, size := 5, bytes := 80, zero := [Z.i IntKind.i64, Z.b, Z.s, Z.sl, Z.sl] }), (32, { k := TK.slice 5, agg := false, size := 1, bytes := 24, zero := [Z.sl] }), (40, { k := TK.int IntKind.i64, agg := false, size := 1, bytes := 8, zero := [Z.i IntKind.i64] }), (67, { k := TK.st [(0, 65, 2), (2, 32, 1), (3, 9, 1), (4, 32, 1)], agg := true, size := 5, bytes := 96, zero := [Z.s, Z.s, Z.sl, Z.s, Z.sl] }), (4, { k := TK.bool, agg := false, size := 1, bytes := 1, zero := [Z.b] }), (65, { k := TK.st [(0, 9, 1), (1, 9, 1)], agg := true, size := 2, bytes := 32, zero := [Z.s, Z.s] }), (3, { k := TK.int IntKind.i64, agg := false, size := 1, bytes := 8, zero := [Z.i IntKind.i64] }), (75, { k := TK.slice 107, agg := false, size := 1, bytes := 24, zero := [Z.sl] }), (149, { k := TK.slice 9, agg := false, size := 1, bytes := 24, zero := [Z.sl] }), (74, { k := TK.slice 77, agg := false, size := 1, bytes := 24, zero := [Z.sl] }), (5, { k := TK.int IntKind.u8, agg := false, size := 1, bytes := 1, zero := [Z.i IntKind.u8] })]
set_option maxRecDepth 100000 in
theorem tab : TabOk Tryz.prog T := tabOk_mk (ts := [28, 26, 9, 107, 77, 32, 40, 67, 4, 65, 3, 75, 149, 74, 5]) (by kernel_rfl)
theorem mixed : Tryz.prog.follows .mixedOrders = true := by kernel_rfl
def sfxN : List Value := [.string (⟨#[99, 97, 101, 112, 47, 101, 118, 101, 110, 116, 45, 116, 121, 112, 101, 47, 115, 101, 115, 115, 105, 111, 110, 45, 114, 101, 118, 111, 107, 101, 100]⟩ : ByteArray), .string (⟨#[99, 97, 101, 112, 47, 101, 118, 101, 110, 116, 45, 116, 121, 112, 101, 47, 99, 114, 101, 100, 101, 110, 116, 105, 97, 108, 45, 99, 104, 97, 110, 103, 101]⟩ : ByteArray), .string (⟨#[114, 105, 115, 99, 47, 101, 118, 101, 110, 116, 45, 116, 121, 112, 101, 47, 97, 99, 99, 111, 117, 110, 116, 45, 100, 105, 115, 97, 98, 108, 101, 100]⟩ : ByteArray), .string (⟨#[114, 105, 115, 99, 47, 101, 118, 101, 110, 116, 45, 116, 121, 112, 101, 47, 97, 99, 99, 111, 117, 110, 116, 45, 101, 110, 97, 98, 108, 101, 100]⟩ : ByteArray), .string (⟨#[99, 97, 101, 112, 47, 101, 118, 101, 110, 116, 45, 116, 121, 112, 101, 47, 116, 111, 107, 101, 110, 45, 99, 108, 97, 105, 109, 115, 45, 99, 104, 97, 110, 103, 101]⟩ : ByteArray), .string (⟨#[115, 115, 101, 47, 101, 118, 101, 110, 116, 45, 116, 121, 112, 101, 47, 118, 101, 114, 105, 102, 105, 99, 97, 116, 105, 111, 110]⟩ : ByteArray)]
abbrev frontB := (⟨#[104, 116, 116, 112, 115, 58, 47, 47, 115, 99, 104, 101, 109, 97, 115, 46, 111, 112, 101, 110, 105, 100, 46, 110, 101, 116, 47, 115, 101, 99, 101, 118, 101, 110, 116, 47]⟩ : ByteArray)
theorem names0 (H : Hp) : CallO Tryz.prog 163 [] H [] fun e H' G' => e = .ret (.si (.ce (.self 0))) ∧ H.Le H' ∧ G' = [.row 9 1 6 (allN.map Value.string)] := by
 refine CallO.of_body tab Tryz.func163 rfl (nt := Tryz.f163.ntmps) rfl (by kernel_rfl) ?_
 (conv => whnf)
 refine ⟨by decide, .inl ?_⟩
 intro g H2 hle hrd
 (conv => whnf)
 refine WS.nilRow 1 9 1 rfl ?_
 (conv => whnf)
 generalize hA : (some ⟨g, 0, none⟩ : Option Addr) = A at *
 have hv : VAt H2 A 6 sfxN := by
  refine ⟨rfl, ?_, ?_⟩
  ·intro e
   rw [← hA] at e
   cases e
  ·intro a e
   rw [← e]
   exact hrd
 refine WS.loop (fun k' F H3 G => ∃ i : Nat, i ≤ 6 ∧ k' = 6 - i ∧ F = [(1, .si (.ce (.self 0))), (4, pv (.slice A 6 6)), (5, pv (.int .i64 6)), (6, pv (.int .i64 i))] ∧ H2.Le H3 ∧ G = [.row 9 1 i ((allN.take i).map Value.string)]) 7 ?_ ?_
 ·refine ⟨6, by omega, _, _, [0], ⟨0, by omega, rfl, rfl, .refl _, rfl⟩, ?_⟩
  exact ⟨rfl, ⟨rfl, trivial⟩, rfl, rfl, rfl, rfl, trivial⟩
 rintro k' F H3 G hle3 ⟨i, hi, rfl, rfl, hle4, rfl⟩
 refine codeL.go tab ?_
 (conv => whnf)
 refine br.of (fun h7 => ?_) (fun h7 => ?_) <;> (conv => whnf)
 ·have h7 := of_decide_eq_true h7
  obtain ⟨x, hx, hfx, hsz⟩ : ∃ x : ByteArray, sfxN[i]? = some (.string x) ∧ allN[i]? = some (frontB ++ x) ∧ x.size ≤ 100 := by
   obtain rfl | rfl | rfl | rfl | rfl | rfl : i = 0 ∨ i = 1 ∨ i = 2 ∨ i = 3 ∨ i = 4 ∨ i = 5 := by omega
   all_goals exact ⟨_, rfl, by decide +kernel, by decide +kernel⟩
  have htake : (allN.take (i + 1)).map Value.string = (allN.take i).map Value.string ++ [.string (frontB ++ x)] := by rw [List.take_add_one, hfx, List.map_append]; rfl
  have hl : ((allN.take i).map Value.string).length = i := by rw [List.length_map, List.length_take]; show min i 6 = i; omega
  refine ⟨⟨by omega, by omega⟩, hv.addr (by decide), ?_⟩
  (conv => whnf)
  refine ⟨_, (hv.mono hle4).get hx (by show (i : Int).toNat * 1 = i; omega), ?_⟩
  (conv => whnf)
  have hfs : frontB.size ≤ 40 := by decide
  refine ⟨by show frontB.size + x.size ≤ _; omega, ?_⟩
  (conv => whnf)
  refine ⟨by decide, .inl ?_⟩
  intro ga H5 hle5 hrd2
  (conv => whnf)
  refine ⟨_, rfl, hrd2, fun u hu => by rcases List.mem_singleton.1 hu with rfl; rfl, ?_⟩
  (conv => whnf)
  refine ⟨by show (i + 1) * 17 ≤ _; omega, ?_⟩
  (conv => whnf)
  rw [wrap64 (x := (i : Int) + 1) (by omega) (by omega)]
  refine ⟨6 - (i + 1), by omega, _, _, [1], ⟨i + 1, by omega, rfl, rfl, hle4.trans hle5, rfl⟩, ?_⟩
  refine ⟨rfl, ⟨?_, trivial⟩, rfl, rfl, rfl, rfl, trivial⟩
  rw [htake]; rfl
 ·have h7 := of_decide_eq_false h7
  obtain rfl : i = 6 := by omega
  exact ⟨rfl, hle.trans hle4, rfl⟩
theorem names_ (H : Hp) : CallO Tryz.prog 163 [] H [] fun e H' G' => RetV (bL allN) e H' ∧ H.Le H' ∧ G' = [] := by
 refine CallO.sub (CallO.frz (K := fun e H' G' => RetV (bL allN) e H' ∧ H.Le H' ∧ G' = [.dead]) (names0 H) ?_) ?_
 ·rintro e H' G' hle ⟨rfl, hle1, rfl⟩
  refine ⟨0, 9, 1, _, _, rfl, fun h0 => absurd h0 (by decide), fun x H2 hle2 hfr => ?_⟩
  obtain ⟨B, cc, rfl, hv⟩ := VAt.of_frozen (by simp [allN]) hfr
  exact ⟨⟨B, _, cc, rfl, by rw [stC_bL]; exact hv⟩, hle1.trans hle2, rfl⟩
 ·rintro e H' G' hle ⟨⟨B, m, cc, rfl, hv⟩, hle1, rfl⟩
  exact ⟨_, [], [], rfl, trivial, rfl, ⟨B, m, cc, rfl, hv⟩, hle1, rfl⟩
theorem name_ (k : Int) (h0 : -9223372036854775808 ≤ k) (h1 : k ≤ 9223372036854775807) (H : Hp) : CallO Tryz.prog 118 [pv (.int .i64 k)] H [] fun e H' G' => e = .ret (.tu [.ce (.val (.string (nameK k))), .ce (.val (.bool (decide (1 ≤ k) && decide (k ≤ 6))))]) ∧ H.Le H' ∧ G' = [] := by
 unfold nameK
 refine CallO.of_body tab Tryz.func118 rfl (nt := Tryz.f118.ntmps) rfl (by kernel_rfl) ?_
 (conv => whnf)
 refine br.of (fun h2 => ?_) (fun h2 => ?_) <;> (conv => whnf)
 ·have h2 := of_decide_eq_true h2
  rw [if_neg (by omega), decide_eq_false (show ¬ 1 ≤ k by omega), Bool.false_and]
  exact ⟨rfl, .refl _, rfl⟩
 have h2 := of_decide_eq_false h2
 rw [decide_eq_true (show 1 ≤ k by omega), Bool.true_and]
 refine br.of (fun h3 => ?_) (fun h3 => ?_) <;> (conv => whnf)
 ·have h3 := of_decide_eq_true h3
  rw [if_neg (by omega), decide_eq_false (show ¬ k ≤ 6 by omega)]
  exact ⟨rfl, .refl _, rfl⟩
 have h3 := of_decide_eq_false h3
 rw [if_pos (by omega), decide_eq_true (show k ≤ 6 by omega)]
 refine ⟨⟨_, Tryz.func163, rfl, by kernel_rfl⟩, CallS.use (names_ H) [] rfl rfl trivial ?_⟩
 rintro e H2 G' hle ⟨⟨B, m, cc, rfl, hv⟩, hle1, rfl⟩
 have hm : m = 6 := by have := hv.1; rw [stC_len] at this; exact this
 subst hm
 rw [stC_bL] at hv
 (conv => whnf)
 rw [wrap64 (x := k - 1) (by omega) (by omega)]
 refine ⟨⟨by omega, by omega⟩, hv.addr (by decide), ?_⟩
 (conv => whnf)
 have hget : (allN.map Value.string)[(k - 1).toNat]? = some (.string (allN.getD (k - 1).toNat ⟨#[]⟩)) := by
  have : (k - 1).toNat < allN.length := by show _ < 6; omega
  rw [List.getElem?_map, List.getD_eq_getElem?_getD, List.getElem?_eq_getElem this]; rfl
 refine ⟨_, hv.get hget (by show (k - 1).toNat * 1 = _; omega), ?_⟩
 (conv => whnf)
 exact ⟨rfl, hle1, rfl⟩
def ixT (s : ByteArray) : List ByteArray → Int
 | [] => -1
 | t :: r => if s = t then 0 else if ixT s r < 0 then -1 else ixT s r + 1
theorem ixT_ge (s : ByteArray) : ∀ l, -1 ≤ ixT s l ∧ ixT s l < l.length
 | [] => ⟨by simp [ixT], by simp [ixT]⟩
 | t :: r => by
  obtain ⟨h1, h2⟩ := ixT_ge s r
  unfold ixT
  simp only [List.length_cons]
  split
  ·omega
  ·split <;> omega
theorem ixT_front (s : ByteArray) : ∀ (l r : List ByteArray), (∀ t ∈ l, s ≠ t) → ixT s (l ++ r) = if ixT s r < 0 then -1 else ixT s r + l.length
 | [], r, _ => by
  have := ixT_ge s r
  simp only [List.nil_append, List.length_nil]
  split <;> omega
 | t :: l, r, h => by
  have h1 := ixT_front s l r (fun t ht => h t (by simp [ht]))
  have := ixT_ge s r
  simp only [List.cons_append, ixT]
  rw [if_neg (h t (by simp)), h1]
  simp only [List.length_cons]
  by_cases h0 : ixT s r < 0
  ·rw [if_pos h0, if_pos (by omega), if_pos h0]
  ·rw [if_neg h0, if_neg (by omega)]; omega
theorem index_ (s : ByteArray) (L : List ByteArray) (hL : L.length ≤ 1000000) (B : Option Addr) (cc : Nat) (H : Hp) (hv : VAt H B L.length (stC (bL L))) : CallO Tryz.prog 189 [pv (.slice B L.length cc), pv (.string s)] H [] fun e H' G' => e = .ret (pv (.int .i64 (ixT s L))) ∧ H' = H ∧ G' = [] := by
 rw [stC_bL] at hv
 refine CallO.of_body tab Tryz.func189 rfl (nt := Tryz.f189.ntmps) rfl (by kernel_rfl) ?_
 (conv => whnf)
 refine WS.loop (fun k' F H3 G => ∃ i : Nat, i ≤ L.length ∧ (∀ t ∈ L.take i, s ≠ t) ∧ k' = L.length - i ∧ F = [(0, pv (.slice B L.length cc)), (1, pv (.string s)), (7, pv (.int .i64 L.length)), (8, pv (.int .i64 i))] ∧ H3 = H ∧ G = []) (L.length + 1) ?_ ?_
 ·refine ⟨L.length, by omega, _, _, [], ⟨0, by omega, fun t ht => by simp at ht, rfl, rfl, rfl, rfl⟩, ?_⟩
  exact ⟨rfl, trivial, rfl, rfl, rfl, rfl, trivial⟩
 rintro k' F H3 G hle3 ⟨i, hi, hno, rfl, rfl, rfl, rfl⟩
 refine codeL.go tab ?_
 (conv => whnf)
 refine br.of (fun h7 => ?_) (fun h7 => ?_) <;> (conv => whnf)
 ·have h7 := of_decide_eq_true h7
  have hil : i < L.length := by omega
  have hget : (L.map Value.string)[i]? = some (.string (L[i]'hil)) := by simp [hil]
  have hdr : L = L.take i ++ L[i]'hil :: L.drop (i + 1) := by rw [← List.drop_eq_getElem_cons hil, List.take_append_drop]
  have htk : L.take (i + 1) = L.take i ++ [L[i]'hil] := by rw [List.take_add_one, List.getElem?_eq_getElem hil]; rfl
  generalize L[i]'hil = t at hget hdr htk
  refine ⟨⟨by omega, by omega⟩, hv.addr (by omega), ?_⟩
  (conv => whnf)
  refine ⟨_, hv.get hget (by show (i : Int).toNat * 1 = i; omega), ?_⟩
  (conv => whnf)
  refine br.of (fun h8 => ?_) (fun h8 => ?_) <;> (conv => whnf)
  ·have h8 := (strEq_iff ..).1 h8
   refine ⟨?_, rfl, rfl⟩
   have : ixT s L = i := by
    rw [hdr, ixT_front s _ _ hno]
    have : ixT s (t :: L.drop (i + 1)) = 0 := by unfold ixT; rw [if_pos h8]
    rw [this, if_neg (by omega), List.length_take]
    omega
   rw [this]; rfl
  ·have h8 : s ≠ t := fun h => by rw [h, str_refl] at h8; cases h8
   rw [wrap64 (x := (i : Int) + 1) (by omega) (by omega)]
   refine ⟨L.length - (i + 1), by omega, _, _, [], ⟨i + 1, by omega, fun u hu => ?_, rfl, rfl, rfl, rfl⟩, ?_⟩
   ·rw [htk] at hu
    rcases List.mem_append.1 hu with hu | hu
    ·exact hno u hu
    ·rw [List.mem_singleton.1 hu]; exact h8
   ·exact ⟨rfl, trivial, rfl, rfl, rfl, rfl, trivial⟩
 ·have h7 := of_decide_eq_false h7
  obtain rfl : i = L.length := by omega
  rw [List.take_length] at hno
  refine ⟨?_, rfl, rfl⟩
  have : ixT s L = -1 := by
   have := ixT_front s L [] hno
   rw [List.append_nil] at this
   rw [this]
   simp [ixT]
  rw [this]; rfl
theorem kind_ix (s : ByteArray) : kindN s = ixT s allN + 1 ∧ (decide (ixT s allN ≥ 0) = !(kindN s == 0)) := by
 unfold kindN allN
 simp only [ixT]
 repeat' split
 all_goals first | exact ⟨rfl, rfl⟩ | omega | (constructor <;> simp_all)
theorem kind_ (s : ByteArray) (H : Hp) : CallO Tryz.prog 155 [pv (.string s)] H [] fun e H' G' => e = .ret (.tu [.ce (.val (.int .i64 (kindN s))), .ce (.val (.bool (!(kindN s == 0))))]) ∧ H.Le H' ∧ G' = [] := by
 obtain ⟨hk1, hk2⟩ := kind_ix s
 obtain ⟨g1, g2⟩ := ixT_ge s allN
 have g3 : allN.length = 6 := rfl
 rw [← hk2, hk1]
 clear hk1 hk2
 refine CallO.of_body tab Tryz.func155 rfl (nt := Tryz.f155.ntmps) rfl (by kernel_rfl) ?_
 (conv => whnf)
 refine ⟨⟨_, Tryz.func163, rfl, by kernel_rfl⟩, CallS.use (names_ H) [] rfl rfl trivial ?_⟩
 rintro e H2 G' hle ⟨⟨B, m, cc, rfl, hv⟩, hle1, rfl⟩
 have hm : m = allN.length := by have := hv.1; rw [stC_len] at this; exact this
 subst hm
 (conv => whnf)
 refine ⟨⟨_, Tryz.func189, rfl, by kernel_rfl⟩, CallS.use (index_ s allN (by decide) B cc H2 hv) [] rfl rfl trivial ?_⟩
 rintro e H3 G' hle3 ⟨rfl, rfl, rfl⟩
 generalize ixT s allN = i at *
 (conv => whnf)
 rw [wrap64 (x := i + 1) (by omega) (by omega)]
 exact ⟨rfl, hle1, rfl⟩
end Go.Kx.Se
namespace Go.Kx.Se
open Go.Proofs Go.Kx Go.RowKit Go.Kx.Js Go.Kx.Pr Go.Kx.Rt Go.Kx.Ob Go.Kx.Wo Go.Kx.Cl Go.Kx.Pa Go.Kx.Su
set_option maxRecDepth 20000
set_option linter.unusedSimpArgs false
abbrev cs10 (a b c : ByteArray) (n : Int) (t f i o : ByteArray) (k : Int) (r : ByteArray) : List SC := [.val (.string a), .val (.string b), .val (.string c), .val (.int .i64 n), .val (.string t), .val (.string f), .val (.string i), .val (.string o), .val (.int .i64 k), .val (.string r)]
def agC (c : Clm) : SV := .si (.ag (cs10 c.iss c.jti c.aud c.iat c.txn c.sub.fmt c.sub.id c.sub.own c.kind c.reason))
theorem right0 (a b c : ByteArray) (n : Int) (t f i o : ByteArray) (k : Int) (r : ByteArray) (hk : -9223372036854775808 ≤ k ∧ k ≤ 9223372036854775807) (H : Hp) :
  CallO Tryz.prog 69 [.si (.ag (cs10 a b c n t f i o k r))] H [] fun e H' G' => e = .ret (pv (.bool (clRight ⟨a, b, c, n, t, ⟨f, i, o⟩, k, r⟩))) ∧ H.Le H' ∧ G' = [] := by
 unfold clRight
 dsimp only
 refine CallO.of_body tab Tryz.func69 rfl (nt := Tryz.f69.ntmps) rfl (by kernel_rfl) ?_
 (conv => whnf)
 refine ⟨⟨_, Tryz.func118, rfl, by kernel_rfl⟩, CallS.use (name_ k hk.1 hk.2 H) [] rfl rfl trivial ?_⟩
 rintro e H1 G' hle1 ⟨rfl, hle1', rfl⟩
 generalize hb : (decide (1 ≤ k) && decide (k ≤ 6)) = b0
 cases b0
 all_goals (conv => whnf)
 ·exact ⟨rfl, hle1, rfl⟩
 refine ⟨⟨_, Tryz.func119, rfl, by kernel_rfl⟩, CallS.use (setWord a _) [] rfl rfl trivial ?_⟩
 rintro e H2 G' hle2 ⟨rfl, rfl⟩
 have hle2 := hle1.trans hle2
 cases Wo.wordP 256 a
 all_goals (conv => whnf)
 ·exact ⟨rfl, hle2, rfl⟩
 refine ⟨⟨_, Tryz.func119, rfl, by kernel_rfl⟩, CallS.use (setWord b _) [] rfl rfl trivial ?_⟩
 rintro e H3 G' hle3 ⟨rfl, rfl⟩
 have hle3 := hle2.trans hle3
 cases Wo.wordP 256 b
 all_goals (conv => whnf)
 ·exact ⟨rfl, hle3, rfl⟩
 refine ⟨⟨_, Tryz.func119, rfl, by kernel_rfl⟩, CallS.use (setWord c _) [] rfl rfl trivial ?_⟩
 rintro e H4 G' hle4 ⟨rfl, rfl⟩
 have hle4 := hle3.trans hle4
 cases Wo.wordP 256 c
 all_goals (conv => whnf)
 ·exact ⟨rfl, hle4, rfl⟩
 refine ⟨⟨_, Tryz.func119, rfl, by kernel_rfl⟩, CallS.use (setWord t _) [] rfl rfl trivial ?_⟩
 rintro e H5 G' hle5 ⟨rfl, rfl⟩
 have hle5 := hle4.trans hle5
 cases Wo.wordP 256 t
 all_goals (conv => whnf)
 ·exact ⟨rfl, hle5, rfl⟩
 refine br.of (fun h1 => ?_) (fun h1 => ?_) <;> (conv => whnf)
 rotate_left
 ·have h1 := of_decide_eq_false h1
  rw [decide_eq_false (show ¬ 0 ≤ n by omega)]
  exact ⟨rfl, hle5, rfl⟩
 have h1 := of_decide_eq_true h1
 rw [decide_eq_true (show 0 ≤ n by omega)]
 refine br.of (fun h2 => ?_) (fun h2 => ?_) <;> (conv => whnf)
 rotate_left
 ·have h2 := of_decide_eq_false h2
  rw [decide_eq_false (show ¬ n ≤ 1099511627776 by omega)]
  exact ⟨rfl, hle5, rfl⟩
 have h2 := of_decide_eq_true h2
 rw [decide_eq_true (show n ≤ 1099511627776 by omega)]
 refine ⟨⟨_, Tryz.func120, rfl, by kernel_rfl⟩, CallS.use (Su.right0 f i o _) [] rfl rfl trivial ?_⟩
 rintro e H6 G' hle6 ⟨rfl, rfl⟩
 have hle6 := hle5.trans hle6
 cases subRight ⟨f, i, o⟩
 all_goals (conv => whnf)
 ·exact ⟨rfl, hle6, rfl⟩
 refine br.of (fun h3 => ?_) (fun h3 => ?_) <;> (conv => whnf)
 ·have h3' : strEq r ⟨#[]⟩ = true := h3
  rw [h3']
  exact ⟨rfl, hle6, rfl⟩
 have h3' : strEq r ⟨#[]⟩ = false := h3
 rw [h3']
 refine ⟨⟨_, Tryz.func119, rfl, by kernel_rfl⟩, CallS.use (setWord r _) [] rfl rfl trivial ?_⟩
 rintro e H7 G' hle7 ⟨rfl, rfl⟩
 (conv => whnf)
 exact ⟨rfl, hle6.trans hle7, rfl⟩
theorem member_ (s : ByteArray) (k : Int) (y : Bool) (t : ByteArray) (A : Option Addr) (n c : Nat) (B : Option Addr) (m d : Nat) (H : Hp) :
  CallO Tryz.prog 71 [pv (.string s), agJ k y t A n c B m d] H [] fun e H' G' => e = .ret (.si (.ag [.val (.string s), .val (.int .i64 k), .val (.bool y), .val (.string t), .val (.slice A n c), .val (.slice B m d)])) ∧ H' = H ∧ G' = [] := by
 refine CallO.of_body tab Tryz.func71 rfl (nt := Tryz.f71.ntmps) rfl (by kernel_rfl) ?_
 (conv => whnf)
 exact ⟨rfl, rfl, rfl⟩
theorem events0 (a b c : ByteArray) (n : Int) (t f i o : ByteArray) (k : Int) (r : ByteArray) (hk : 1 ≤ k ∧ k ≤ 6) (H : Hp) :
  CallO Tryz.prog 72 [.si (.ag (cs10 a b c n t f i o k r))] H [] fun e H' G' => (∃ k' y' t' A' n' c' B' m' d', e = .ret (agJ k' y' t' A' n' c' B' m' d') ∧ JAt H' (evJ ⟨a, b, c, n, t, ⟨f, i, o⟩, k, r⟩) [.int .i64 k', .bool y', .string t', .slice A' n' c', .slice B' m' d']) ∧ H.Le H' ∧ G' = [] := by
 refine CallO.of_body tab Tryz.func72 rfl (nt := Tryz.f72.ntmps) rfl (by kernel_rfl) ?_
 (conv => whnf)
 refine br.of (fun h1 => ?_) (fun h1 => ?_) <;> (conv => whnf)
 ·refine ⟨⟨_, Tryz.func48, rfl, by kernel_rfl⟩, CallS.use (Ob.str_ r _) [] rfl rfl trivial ?_⟩
  rintro e H2 G' hle2 ⟨rfl, rfl, rfl⟩
  (conv => whnf)
  refine ⟨⟨_, Tryz.func71, rfl, by kernel_rfl⟩, CallS.use (member_ sReason 4 false r none 0 0 none 0 0 _) [] rfl rfl trivial ?_⟩
  rintro e H3 G' hle3 ⟨rfl, rfl, rfl⟩
  (conv => whnf)
  refine ⟨by decide, .inl ?_⟩
  intro g H4 hle4 hrd
  (conv => whnf)
  have hone : ∀ u ∈ [Value.string sReason, .int .i64 4, .bool false, .string r, .slice none 0 0, .slice none 0 0], u.oneCell' = true := fun u hu => by simp only [List.mem_cons, List.mem_nil_iff, or_false] at hu; rcases hu with rfl | rfl | rfl | rfl | rfl | rfl <;> rfl
  refine ⟨_, rfl, hrd, hone, ?_⟩
  (conv => whnf)
  refine ⟨by decide, ?_⟩
  (conv => whnf)
  have hr : ¬ strEq r ⟨#[]⟩ = true := by simpa using h1
  have hev : evMs ⟨a, b, c, n, t, ⟨f, i, o⟩, k, r⟩ = [(sReason, strJ r)] := by unfold evMs; dsimp only; rw [if_neg hr]
  refine ⟨⟨_, Tryz.func118, rfl, by kernel_rfl⟩, CallS.use (name_ k (by omega) (by omega) _) [] rfl rfl trivial ?_⟩
  rintro e H5 G' hle5 ⟨rfl, hle5', rfl⟩
  (conv => whnf)
  refine ⟨⟨_, Tryz.func46, rfl, by kernel_rfl⟩, CallS.use (objO [(sReason, strJ r)] [.string sReason, .int .i64 4, .bool false, .string r, .slice none 0 0, .slice none 0 0] Nat.zero_lt_one (Nat.le_of_ble_eq_true rfl) _ (.cons (.bare 4 false r) .nil)) [2] rfl rfl ⟨rfl, trivial⟩ ?_⟩
  rintro e H6 G' hle6 ⟨⟨B6, d6, rfl, hj6⟩, rfl⟩
  (conv => whnf)
  have hin0 : JAt H6 (objJ (evMs ⟨a, b, c, n, t, ⟨f, i, o⟩, k, r⟩)) [.int .i64 6, .bool false, .string ⟨#[]⟩, .slice none 0 0, .slice B6 1 d6] := by rw [hev]; exact hj6
  refine ⟨⟨_, Tryz.func71, rfl, by kernel_rfl⟩, CallS.use (member_ (nameK k) 6 false ⟨#[]⟩ none 0 0 B6 1 d6 _) [] rfl rfl trivial ?_⟩
  rintro e H7 G' hle7 ⟨rfl, rfl, rfl⟩
  (conv => whnf)
  refine ⟨by decide, .inl ?_⟩
  intro g2 H8 hle8 hrd2
  (conv => whnf)
  have hms8 : MsAt H8 [(nameK k, objJ (evMs ⟨a, b, c, n, t, ⟨f, i, o⟩, k, r⟩))] [.string (nameK k), .int .i64 6, .bool false, .string ⟨#[]⟩, .slice none 0 0, .slice B6 1 d6] := .cons (hin0.mono hle8) .nil
  refine ⟨⟨_, Tryz.func46, rfl, by kernel_rfl⟩, CallS.use (obj_ [(nameK k, objJ (evMs ⟨a, b, c, n, t, ⟨f, i, o⟩, k, r⟩))] (Nat.le_of_ble_eq_true rfl) (some ⟨g2, 0, none⟩) 1 _ H8 hms8 ⟨fun e => (nomatch e), fun a e => by injection e with e; subst e; exact hrd2⟩ Nat.zero_lt_one) [] rfl rfl trivial ?_⟩
  rintro e H9 G' hle9 ⟨⟨B3, d3, rfl, hj⟩, rfl⟩
  (conv => whnf)
  exact ⟨⟨_, _, _, _, _, _, _, _, _, rfl, hj⟩, ((((hle2.trans hle4).trans hle5).trans hle6).trans hle8).trans hle9, rfl⟩
 ·have hr : strEq r ⟨#[]⟩ = true := by simpa using h1
  have hev : evMs ⟨a, b, c, n, t, ⟨f, i, o⟩, k, r⟩ = [] := by unfold evMs; dsimp only; rw [if_pos hr]
  refine ⟨⟨_, Tryz.func118, rfl, by kernel_rfl⟩, CallS.use (name_ k (by omega) (by omega) _) [] rfl rfl trivial ?_⟩
  rintro e H5 G' hle5 ⟨rfl, hle5', rfl⟩
  (conv => whnf)
  refine ⟨⟨_, Tryz.func46, rfl, by kernel_rfl⟩, CallS.use (objNil _) [] rfl rfl trivial ?_⟩
  rintro e H6 G' hle6 ⟨rfl, rfl, rfl⟩
  (conv => whnf)
  have hin0 : JAt H6 (objJ (evMs ⟨a, b, c, n, t, ⟨f, i, o⟩, k, r⟩)) [.int .i64 6, .bool false, .string ⟨#[]⟩, .slice none 0 0, .slice none 0 0] := by rw [hev]; exact .bare 6 false ⟨#[]⟩
  refine ⟨⟨_, Tryz.func71, rfl, by kernel_rfl⟩, CallS.use (member_ (nameK k) 6 false ⟨#[]⟩ none 0 0 none 0 0 _) [] rfl rfl trivial ?_⟩
  rintro e H7 G' hle7 ⟨rfl, rfl, rfl⟩
  (conv => whnf)
  refine ⟨by decide, .inl ?_⟩
  intro g2 H8 hle8 hrd2
  (conv => whnf)
  have hms8 : MsAt H8 [(nameK k, objJ (evMs ⟨a, b, c, n, t, ⟨f, i, o⟩, k, r⟩))] [.string (nameK k), .int .i64 6, .bool false, .string ⟨#[]⟩, .slice none 0 0, .slice none 0 0] := .cons (hin0.mono hle8) .nil
  refine ⟨⟨_, Tryz.func46, rfl, by kernel_rfl⟩, CallS.use (obj_ [(nameK k, objJ (evMs ⟨a, b, c, n, t, ⟨f, i, o⟩, k, r⟩))] (Nat.le_of_ble_eq_true rfl) (some ⟨g2, 0, none⟩) 1 _ H8 hms8 ⟨fun e => (nomatch e), fun a e => by injection e with e; subst e; exact hrd2⟩ Nat.zero_lt_one) [] rfl rfl trivial ?_⟩
  rintro e H9 G' hle9 ⟨⟨B3, d3, rfl, hj⟩, rfl⟩
  (conv => whnf)
  exact ⟨⟨_, _, _, _, _, _, _, _, _, rfl, hj⟩, (hle5.trans hle8).trans hle9, rfl⟩
end Go.Kx.Se
namespace Go.Kx.Se
open Go.Proofs Go.Kx Go.RowKit Go.Kx.Js Go.Kx.Pr Go.Kx.Rt Go.Kx.Ob Go.Kx.Wo Go.Kx.Cl Go.Kx.Pa Go.Kx.Su
set_option maxRecDepth 20000
set_option linter.unusedSimpArgs false
def valP (c : Clm) : J × Int := if clRight c then (clJ c, 0) else (jNone, 10)
theorem value0 (a b c : ByteArray) (n : Int) (t f i o : ByteArray) (k : Int) (r : ByteArray) (hk : -9223372036854775808 ≤ k ∧ k ≤ 9223372036854775807) (H : Hp) :
  CallO Tryz.prog 39 [.si (.ag (cs10 a b c n t f i o k r))] H [] fun e H' G' => RJ2 (valP ⟨a, b, c, n, t, ⟨f, i, o⟩, k, r⟩) e H' ∧ H.Le H' ∧ G' = [] := by
 have hri := right_iff ⟨a, b, c, n, t, ⟨f, i, o⟩, k, r⟩
 unfold valP
 refine CallO.of_body tab Tryz.func39 rfl (nt := Tryz.f39.ntmps) rfl (by kernel_rfl) ?_
 (conv => whnf)
 refine ⟨⟨_, Tryz.func69, rfl, by kernel_rfl⟩, CallS.use (right0 a b c n t f i o k r hk H) [] rfl rfl trivial ?_⟩
 rintro e H1 G' hle1 ⟨rfl, hle1', rfl⟩
 cases hr : clRight ⟨a, b, c, n, t, ⟨f, i, o⟩, k, r⟩
 all_goals (conv => whnf)
 ·exact ⟨⟨_, _, _, _, _, _, _, _, _, rfl, .bare 0 false ⟨#[]⟩⟩, hle1, rfl⟩
 have hR := hri.1 hr
 have hn0 := hR.iat.1
 have hn1 := hR.iat.2
 have hk0 := hR.kind
 have hsub := hR.sub
 dsimp only at hn0 hn1 hk0 hsub
 have hsv : subValP ⟨f, i, o⟩ = (subJ ⟨f, i, o⟩, 0) := by unfold subValP; rw [hsub]; rfl
 refine ⟨⟨_, Tryz.func70, rfl, by kernel_rfl⟩, CallS.use (Su.value0 f i o H1) [] rfl rfl trivial ?_⟩
 rw [hsv]
 rintro e H2 G' hle2 ⟨⟨k2, y2, t2, A2, n2, c2, B2, m2, d2, rfl, hj2⟩, hle2', rfl⟩
 (conv => whnf)
 refine WS.draw tab mixed (.take 0 (.take 1 (.take 4 (.take 5 (.take 8 (.take 9 (.take 12 (.take 13 (.take 16 (.take 17 (.take 20 (.take 22 (.alt 2 (.alt 3 (.alt 6 (.alt 7 (.alt 10 (.alt 11 (.alt 14 (.alt 15 (.alt 18 (.alt 19 (.alt 21 (.alt 23 (.alt 24 (.alt 25 (.alt 26 (.alt 27 (.take 28 .done) .no) .no) .no) .no) .no) .no) .no) .no) .no) .no) .no) .no) .no) .no) .no) .no))))))))))))) (by kernel_rfl) [1] ?_
 (conv => whnf)
 repeat' (first
  | exact trivial
  | exact rfl
  | exact ⟨rfl, rfl, rfl, trivial⟩
  | exact ⟨_, Tryz.func48, rfl, by kernel_rfl⟩
  | exact ⟨_, Tryz.func50, rfl, by kernel_rfl⟩
  | exact ⟨_, Tryz.func46, rfl, by kernel_rfl⟩
  | exact ⟨_, Tryz.func71, rfl, by kernel_rfl⟩
  | exact ⟨_, Tryz.func72, rfl, by kernel_rfl⟩
  | (refine CallS.use (Ob.str_ _ _) [] rfl rfl trivial ?_; rintro e H6 G' hle7 ⟨rfl, rfl, rfl⟩; (conv => whnf))
  | (refine CallS.use (num_ n (by omega) (by omega) _) [] rfl rfl trivial ?_; rintro e H6 G' hle7 ⟨rfl, rfl, rfl⟩; (conv => whnf))
  | (refine CallS.use (member_ _ _ _ _ _ _ _ _ _ _ _) [] rfl rfl trivial ?_; rintro e H6 G' hle7 ⟨rfl, rfl, rfl⟩; (conv => whnf))
  | (refine CallS.use (events0 a b c n t f i o k r hk0 _) [] rfl rfl trivial ?_; rintro e H6 G' hle7 ⟨⟨k6, y6, t6, A6, n6, c6, B6, m6, d6, rfl, hj6⟩, hle6, rfl⟩; (conv => whnf))
  | exact Nat.le_of_ble_eq_true rfl
  | (refine .inl ?_; intro g H7 hle8 hrd; (conv => whnf))
  | (refine And.intro ?_ ?_ <;> (conv => whnf)))
 have hms : MsAt H7 (clMs ⟨a, b, c, n, t, ⟨f, i, o⟩, k, r⟩) _ := .cons (.bare 4 false a) (.cons (.bare 4 false b) (.cons (.bare 3 false (Lb.itoaB n)) (.cons (.bare 4 false c) (.cons (.bare 4 false t) (.cons (hj2.mono (hle6.trans hle8)) (.cons (hj6.mono hle8) .nil))))))
 have hfin := ((hle1.trans hle2).trans hle6).trans hle8
 refine CallS.use (obj_ (clMs ⟨a, b, c, n, t, ⟨f, i, o⟩, k, r⟩) (Nat.le_of_ble_eq_true rfl) (some ⟨g, 0, none⟩) 7 _ H7 hms ⟨fun e => (nomatch e), fun a e => by injection e with e; subst e; exact hrd⟩ (Nat.zero_lt_succ _)) [] rfl rfl trivial ?_
 rintro e H8 G' hle9 ⟨⟨B8, d8, rfl, hj8⟩, rfl⟩
 (conv => whnf)
 repeat' (first
  | exact trivial
  | exact rfl
  | exact ⟨rfl, trivial, rfl, trivial⟩
  | exact ⟨⟨_, _, _, _, _, _, _, _, _, rfl, hj8⟩, hfin.trans hle9, rfl⟩
  | (refine And.intro ?_ ?_ <;> (conv => whnf)))
theorem value_ (c : Clm) (hk : -9223372036854775808 ≤ c.kind ∧ c.kind ≤ 9223372036854775807) (H : Hp) : CallO Tryz.prog 39 [agC c] H [] fun e H' G' => RJ2 (valP c) e H' ∧ H.Le H' ∧ G' = [] :=
 value0 c.iss c.jti c.aud c.iat c.txn c.sub.fmt c.sub.id c.sub.own c.kind c.reason hk H
end Go.Kx.Se
namespace Go.Kx.Se
open Go.Proofs Go.Kx Go.RowKit Go.Kx.Js Go.Kx.Pr Go.Kx.Rt Go.Kx.Ob Go.Kx.Wo Go.Kx.Cl Go.Kx.Pa Go.Kx.Su
set_option maxRecDepth 20000
set_option linter.unusedSimpArgs false
theorem said_ (j : J) (hl : j.mems.length ≤ 1000000) (s : ByteArray) (k : Int) (y : Bool) (t : ByteArray) (A : Option Addr) (n c : Nat) (B : Option Addr) (m d : Nat) (H : Hp) (hj : JAt H j [.int .i64 k, .bool y, .string t, .slice A n c, .slice B m d]) :
  CallO Tryz.prog 101 [agJ k y t A n c B m d, pv (.string s)] H [] fun e H' G' => e = .ret (pv (.string (said j s))) ∧ H' = H ∧ G' = [] := by
 unfold said
 refine CallO.of_body tab Tryz.func101 rfl (nt := Tryz.f101.ntmps) rfl (by kernel_rfl) ?_
 (conv => whnf)
 refine ⟨⟨_, Tryz.func102, rfl, by kernel_rfl⟩, CallS.use (get_ j k y t A n c B m d s H hj hl) [] rfl rfl trivial ?_⟩
 rintro e H1 G' hle1 ⟨rfl, hg, rfl⟩
 cases hgj : j.get s with
 | none =>
  rw [hgj] at hg
  obtain rfl := hg
  (conv => whnf)
  exact ⟨rfl, rfl, rfl⟩
 | some q =>
  rw [hgj] at hg
  obtain ⟨k2, y2, t2, A2, n2, c2, B2, m2, d2, rfl, hj2⟩ := hg
  obtain ⟨rfl, rfl⟩ : k2 = q.kind ∧ t2 = q.text := by cases hj2; exact ⟨rfl, rfl⟩
  (conv => whnf)
  refine br.of (fun h => ?_) (fun h => ?_) <;> (conv => whnf)
  ·simp only [bne_iff_ne, ne_eq] at h
   dsimp only
   rw [if_neg h]
   exact ⟨rfl, rfl, rfl⟩
  ·simp only [bne_eq_false_iff_eq] at h
   dsimp only
   rw [if_pos h]
   exact ⟨rfl, rfl, rfl⟩
theorem event_ (j : J) (hs : smJ j) (k : Int) (y : Bool) (t : ByteArray) (A : Option Addr) (n c : Nat) (B : Option Addr) (m d : Nat) (H : Hp) (hj : JAt H j [.int .i64 k, .bool y, .string t, .slice A n c, .slice B m d]) :
  CallO Tryz.prog 105 [agJ k y t A n c B m d] H [] fun e H' G' => e = .ret (.tu [.ce (.val (.int .i64 (event j).1)), .ce (.val (.string (event j).2))]) ∧ H.Le H' ∧ G' = [] := by
 cases hj with
 | mk h1 h2 h3 h4 h5 h6 =>
 rename_i js ms xs zs
 have hev : event (.mk k y t js ms) = if k = 6 then (match ms with | [(s, m)] => (kindN s, said m sReason) | _ => (0, ⟨#[]⟩)) else (0, ⟨#[]⟩) := rfl
 rw [hev]
 subst h4
 refine CallO.of_body tab Tryz.func105 rfl (nt := Tryz.f105.ntmps) rfl (by kernel_rfl) ?_
 (conv => whnf)
 refine br.of (fun h7 => ?_) (fun h7 => ?_) <;> (conv => whnf)
 ·simp only [bne_iff_ne, ne_eq] at h7
  rw [if_neg h7]
  exact ⟨rfl, .refl _, rfl⟩
 simp only [bne_eq_false_iff_eq] at h7
 rw [if_pos h7]
 refine br.of (fun h8 => ?_) (fun h8 => ?_) <;> (conv => whnf)
 ·simp only [bne_iff_ne, ne_eq] at h8
  have : (match ms with | [(s, m)] => (kindN s, said m sReason) | _ => ((0 : Int), (⟨#[]⟩ : ByteArray))) = (0, ⟨#[]⟩) := by
   cases ms with
   | nil => rfl
   | cons a r =>
    cases r with
    | nil => exact absurd rfl h8
    | cons b r => rfl
  rw [this]
  exact ⟨rfl, .refl _, rfl⟩
 simp only [bne_eq_false_iff_eq] at h8
 obtain ⟨s, q, rfl⟩ : ∃ s q, ms = [(s, q)] := by
  cases ms with
  | nil => simp at h8
  | cons a r =>
   cases r with
   | nil => exact ⟨a.1, a.2, rfl⟩
   | cons b r => simp at h8; omega
 cases h5 with
 | cons hq hnil =>
 rename_i cs zs'
 cases hnil
 obtain ⟨A2, n2, c2, B2, m2, d2, rfl⟩ := hq.cells
 have hsq : smJ q := (smMs_get hs.2.2.2.2 (i := 0) rfl).2
 have hne0 : (Value.string s :: [Value.int .i64 q.kind, .bool q.yes, .string q.text, .slice A2 n2 c2, .slice B2 m2 d2] ++ []) ≠ [] := by simp
 refine ⟨⟨Int.le_refl _, by show (0 : Int) < 1; decide⟩, h6.addr hne0, ?_⟩
 (conv => whnf)
 refine ⟨h6.addr hne0, ?_⟩
 (conv => whnf)
 have hv6 : VAt H B 6 _ := ⟨rfl, h6.1, h6.2⟩
 refine ⟨_, hv6.get (i := 0) rfl rfl, ?_⟩
 (conv => whnf)
 refine ⟨⟨_, Tryz.func155, rfl, by kernel_rfl⟩, CallS.use (kind_ s H) [] rfl rfl trivial ?_⟩
 rintro e H2 G' hle2 ⟨rfl, hle2', rfl⟩
 (conv => whnf)
 refine ⟨⟨Int.le_refl _, by show (0 : Int) < 1; decide⟩, h6.addr hne0, ?_⟩
 (conv => whnf)
 refine ⟨h6.addr hne0, ?_⟩
 (conv => whnf)
 refine ⟨_, rfl, (h6.mono hle2).cells hne0 (a := 1) (m := 5) rfl rfl, ?_⟩
 (conv => whnf)
 refine ⟨⟨_, Tryz.func101, rfl, by kernel_rfl⟩, CallS.use (said_ q (sm_len hsq) sReason q.kind q.yes q.text A2 n2 c2 B2 m2 d2 H2 (hq.mono hle2)) [] rfl rfl trivial ?_⟩
 rintro e H3 G' hle3 ⟨rfl, rfl, rfl⟩
 (conv => whnf)
 exact ⟨rfl, hle2, rfl⟩
end Go.Kx.Se
namespace Go.Kx.Se
open Go.Proofs Go.Kx Go.RowKit Go.Kx.Js Go.Kx.Pr Go.Kx.Rt Go.Kx.Ob Go.Kx.Wo Go.Kx.Cl Go.Kx.Pa Go.Kx.Su
set_option maxRecDepth 20000
set_option linter.unusedSimpArgs false
theorem getP_mem : ∀ {ms : List (ByteArray × J)} {s : ByteArray} {q : J}, getP ms s = some q → ∃ i : Nat, ms[i]? = some (s, q)
 | [], s, q, h => by cases h
 | (t, j) :: r, s, q, h => by
  unfold getP at h
  split at h
  ·rename_i hts
   injection h with h
   exact ⟨0, by rw [← hts, ← h]; rfl⟩
  ·obtain ⟨i, hi⟩ := getP_mem h
   exact ⟨i + 1, by simpa using hi⟩
theorem sm_mem {j : J} (h : smJ j) (s : ByteArray) : smJ (memJ j s) := by
 obtain ⟨k, y, t, js, ms⟩ := j
 have h0 : smJ jNone := ⟨Nat.zero_le _, Nat.zero_le _, Nat.zero_le _, trivial, trivial⟩
 have hm : memJ (.mk k y t js ms) s = if k = 6 then (getP ms s).getD jNone else jNone := by
  show (if k = 6 then getP ms s else none).getD jNone = _
  split <;> rfl
 rw [hm]
 split
 ·cases hg : getP ms s with
  | none => exact h0
  | some q =>
   obtain ⟨i, hi⟩ := getP_mem hg
   exact (smMs_get h.2.2.2.2 hi).2
 ·exact h0
theorem sm_text {j : J} (h : smJ j) : j.text.size ≤ 190000 := by
 obtain ⟨k, y, t, js, ms⟩ := j
 exact h.1
theorem getM_ (j : J) (hl : j.mems.length ≤ 1000000) (s : ByteArray) (k : Int) (y : Bool) (t : ByteArray) (A : Option Addr) (n c : Nat) (B : Option Addr) (m d : Nat) (H : Hp) (hj : JAt H j [.int .i64 k, .bool y, .string t, .slice A n c, .slice B m d]) :
  CallO Tryz.prog 102 [agJ k y t A n c B m d, pv (.string s)] H [] fun e H' G' => H' = H ∧ (∃ k y t A n c B m d b, e = .ret (.tu [.ag [.val (.int .i64 k), .val (.bool y), .val (.string t), .val (.slice A n c), .val (.slice B m d)], .ce (.val (.bool b))]) ∧ JAt H' (memJ j s) [.int .i64 k, .bool y, .string t, .slice A n c, .slice B m d]) ∧ G' = [] := by
 refine (get_ j k y t A n c B m d s H hj hl).mono ?_
 rintro e H' G' hle ⟨rfl, hg, rfl⟩
 refine ⟨rfl, ?_, rfl⟩
 unfold memJ
 cases hgj : j.get s with
 | none =>
  rw [hgj] at hg
  exact ⟨_, _, _, _, _, _, _, _, _, _, hg, .bare 0 false ⟨#[]⟩⟩
 | some q =>
  rw [hgj] at hg
  obtain ⟨k2, y2, t2, A2, n2, c2, B2, m2, d2, rfl, hj2⟩ := hg
  exact ⟨_, _, _, _, _, _, _, _, _, _, rfl, hj2⟩
abbrev csC (c : Clm) : List SC := cs10 c.iss c.jti c.aud c.iat c.txn c.sub.fmt c.sub.id c.sub.own c.kind c.reason
def RO (x : Option Clm) (e : SE) : Prop := match x with
 | some c => e = .ret (.tu [.ag (csC c), .ce (.val (.int .i64 0))])
 | none => e = .ret (.tu [.ag (csC clm0), .ce (.val (.int .i64 10))])
theorem kindN_le (s : ByteArray) : 0 ≤ kindN s ∧ kindN s ≤ 6 := by
 unfold kindN
 repeat' split
 all_goals omega
theorem event_le (j : J) : 0 ≤ (event j).1 ∧ (event j).1 ≤ 6 := by
 unfold event
 split
 ·split
  ·exact kindN_le _
  ·exact ⟨Int.le_refl _, by decide⟩
 ·exact ⟨Int.le_refl _, by decide⟩
theorem of_ (j : J) (hs : smJ j) (hw : 6 * (wrJ j).length ≤ 8000000) (k : Int) (y : Bool) (t : ByteArray) (A : Option Addr) (n c : Nat) (B : Option Addr) (m d : Nat) (H : Hp) (hE : ErrH H) (hj : JAt H j [.int .i64 k, .bool y, .string t, .slice A n c, .slice B m d]) :
  CallO Tryz.prog 64 [agJ k y t A n c B m d] H [] fun e H' G' => RO (ofP j) e ∧ H.Le H' ∧ G' = [] := by
 have hl := sm_len hs
 have hC : ofC j = ⟨said j sIss, said j sJti, said j sAud, (intP (memJ j sIat)).1, said j sTxn, (subOf (memJ j sSubId)).1, (event (memJ j sEvents)).1, (event (memJ j sEvents)).2⟩ := rfl
 have hkl := event_le (memJ j sEvents)
 refine CallO.of_body tab Tryz.func64 rfl (nt := Tryz.f64.ntmps) rfl (by kernel_rfl) ?_
 (conv => whnf)
 refine WS.draw tab mixed (.take 0 (.take 2 (.take 4 (.take 6 (.alt 1 (.alt 3 (.alt 5 (.alt 7 (.take 8 (.alt 9 (.alt 10 .done .no) .no)) (.alt 9 (.alt 7 (.take 8 (.alt 10 .done .no)) .no) .no)) (.alt 9 (.alt 5 (.alt 7 (.take 8 (.alt 10 .done .no)) .no) .no) .no)) (.alt 9 (.alt 3 (.alt 5 (.alt 7 (.take 8 (.alt 10 .done .no)) .no) .no) .no) .no)) (.alt 9 (.alt 1 (.alt 3 (.alt 5 (.alt 7 (.take 8 (.alt 10 .done .no)) .no) .no) .no) .no) .no)))))) (by kernel_rfl) [] ?_
 (conv => whnf)
 repeat' (first
  | exact trivial
  | exact rfl
  | exact ⟨rfl, rfl, trivial⟩
  | exact ⟨_, Tryz.func101, rfl, by kernel_rfl⟩
  | (refine CallS.use (said_ j hl _ k y t A n c B m d _ hj) [] rfl rfl trivial ?_; rintro e H6 G' hle7 ⟨rfl, rfl, rfl⟩; (conv => whnf))
  | exact ⟨_, Tryz.func102, rfl, by kernel_rfl⟩
  | (refine And.intro ?_ ?_ <;> (conv => whnf)))
 all_goals
  refine CallS.use (getM_ j hl sIat k y t A n c B m d _ hj) [] rfl rfl trivial ?_
  rintro e H7 G' hle8 ⟨rfl, ⟨k2, y2, t2, A2, n2, c2, B2, m2, d2, b2, rfl, hj2⟩, rfl⟩
  (conv => whnf)
  refine ⟨⟨_, Tryz.func103, rfl, by kernel_rfl⟩, CallS.use (int_ _ (sm_text (sm_mem hs sIat)) k2 y2 t2 A2 n2 c2 B2 m2 d2 _ hE hj2) [] rfl rfl trivial ?_⟩
  rintro e H8 G' hle9 ⟨rfl, hle9', rfl⟩
  (conv => whnf)
  refine ⟨⟨_, Tryz.func102, rfl, by kernel_rfl⟩, CallS.use (getM_ j hl sSubId k y t A n c B m d _ (hj.mono hle9)) [] rfl rfl trivial ?_⟩
  rintro e H10 G' hle10 ⟨rfl, ⟨k3, y3, t3, A3, n3, c3, B3, m3, d3, b3, rfl, hj3⟩, rfl⟩
  (conv => whnf)
  refine ⟨⟨_, Tryz.func104, rfl, by kernel_rfl⟩, CallS.use (Su.of_ _ (sm_mem hs sSubId) k3 y3 t3 A3 n3 c3 B3 m3 d3 _ hj3) [] rfl rfl trivial ?_⟩
  rintro e H11 G' hle11 ⟨rfl, hle11', rfl⟩
  (conv => whnf)
  have hleA := hle9.trans hle11
  refine ⟨⟨_, Tryz.func102, rfl, by kernel_rfl⟩, CallS.use (getM_ j hl sEvents k y t A n c B m d _ (hj.mono hleA)) [] rfl rfl trivial ?_⟩
  rintro e H12 G' hle12 ⟨rfl, ⟨k4, y4, t4, A4, n4, c4, B4, m4, d4, b4, rfl, hj4⟩, rfl⟩
  (conv => whnf)
  refine ⟨⟨_, Tryz.func105, rfl, by kernel_rfl⟩, CallS.use (event_ _ (sm_mem hs sEvents) k4 y4 t4 A4 n4 c4 B4 m4 d4 _ hj4) [] rfl rfl trivial ?_⟩
  rintro e H13 G' hle13 ⟨rfl, hle13', rfl⟩
  (conv => whnf)
  have hleB := hleA.trans hle13
  refine ⟨⟨_, Tryz.func39, rfl, by kernel_rfl⟩, CallS.use (value_ (ofC j) ⟨by rw [hC]; dsimp only; omega, by rw [hC]; dsimp only; omega⟩ _) [] rfl rfl trivial ?_⟩
  rintro e H14 G' hle14 ⟨⟨k5, y5, t5, A5, n5, c5, B5, m5, d5, rfl, hj5⟩, hle14', rfl⟩
  have hleC := hleB.trans hle14
  unfold ofP
  unfold valP at hj5 ⊢
  cases hr : clRight (ofC j)
  all_goals
   rw [hr] at hj5
   (conv => whnf)
  ·exact ⟨rfl, hleC, rfl⟩
  have hR := (right_iff (ofC j)).1 hr
  refine ⟨⟨_, Tryz.func106, rfl, by kernel_rfl⟩, CallS.use (same_ (clJ (ofC j)) j (cl_sm hR) hs (cl_wr6 hR) hw k5 y5 t5 A5 n5 c5 B5 m5 d5 k y t A n c B m d _ hj5 (hj.mono hleC)) [] rfl rfl trivial ?_⟩
  rintro e H15 G' hle15 ⟨rfl, hle15', rfl⟩
  cases sameP (clJ (ofC j)) j
  all_goals
   (conv => whnf)
   exact ⟨rfl, hleC.trans hle15, rfl⟩
end Go.Kx.Se
namespace Go.Kx.Jw
open Go.Proofs Go.Kx Go.RowKit Go.Kx.Js Go.Kx.Pr Go.Kx.Rt Go.Kx.Ob Go.Kx.Wo Go.Kx.Cl Go.Kx.Pa Go.Kx.En Go.Kx.Sha Go.Kx.Ro
set_option maxRecDepth 20000
set_option linter.unusedSimpArgs false
def T : Tab := [(65, { k := TK.st [(0, 9, 1), (1, 9, 1)], agg := true, size := 2, bytes := 32, zero := [Z.s, Z.s] }), (67, { k := TK.st [(0, 65, 2), (2, 32, 1), (3, 9, 1), (4, 32, 1)], agg := true, size := 5, bytes := 96, zero := [Z.s, Z.s, Z.sl, Z.s, Z.sl] }), (77, { k := TK.st [(0, 3, 1), (1, 4, 1), (2, 9, 1), (3, 74, 1), (4, 75, 1)], agg := true, size := 5, bytes := 80, zero := [Z.i IntKind.i64, Z.b, Z.s, Z.sl, Z.sl] }), (107, { k := TK.st [(0, 9, 1), (1, 77, 5)], agg := true, size := 6, bytes := 96, zero := [Z.s, Z.i IntKind.i64, Z.b, Z.s, Z.sl, Z.sl] }), (9, { k := TK.string, agg := false, size := 1, bytes := 16, zero := [Z.s] }), (5, { k := TK.int IntKind.u8, agg := false, size := 1, bytes := 1, zero := [Z.i IntKind.u8] }), (32, { k := TK.slice 5, agg := false, size := 1, bytes := 24, zero := [Z.sl] }), (147, { k := TK.st [(0, 40, 1)], agg := true, size := 1, bytes := 8, zero := [Z.i IntKind.i64] }), (40, { k := TK.int IntKind.i64, agg := false, size := 1, bytes := 8, zero := [Z.i IntKind.i64] }), (126, { k := TK.func, agg := false, size := 1, bytes := 8, zero := [Z.fn] }), (1, { k := TK.func, agg := false, size := 1, bytes := 8, zero := [Z.fn] }), (3, { k := TK.int IntKind.i64, agg := false, size := 1, bytes := 8, zero := [Z.i IntKind.i64] }), (4, { k := TK.bool, agg := false, size := 1, bytes := 1, zero := [Z.b] }), (149, { k := TK.slice 9, agg := false, size := 1, bytes := 24, zero := [Z.sl] }), (197, { k := TK.slice 32, agg := false, size := 1, bytes := 24, zero := [Z.sl] }), (20, { k := TK.ifc, agg := false, size := 1, bytes := 16, zero := [Z.ifc] }), (75, { k := TK.slice 107, agg := false, size := 1, bytes := 24, zero := [Z.sl] }), (74, { k := TK.slice 77, agg := false, size := 1, bytes := 24, zero := [Z.sl] })]
set_option maxRecDepth 100000 in
theorem tab : TabOk Tryz.prog T := tabOk_mk (ts := [65, 67, 77, 107, 9, 5, 32, 147, 40, 126, 1, 3, 4, 149, 197, 20, 75, 74]) (by kernel_rfl)
theorem mixed : Tryz.prog.follows .mixedOrders = true := by kernel_rfl
theorem right_ (kid typ : ByteArray) (H : Hp) : CallO Tryz.prog 115 [.si (.ag [.val (.string kid), .val (.string typ)])] H [] fun e H' G' => e = .ret (pv (.bool (Wo.wordP 40 kid && Wo.wordP 40 typ))) ∧ H.Le H' ∧ G' = [] := by
 refine CallO.of_body tab Tryz.func115 rfl (nt := Tryz.f115.ntmps) rfl (by kernel_rfl) ?_
 (conv => whnf)
 refine ⟨⟨_, Tryz.func142, rfl, by kernel_rfl⟩, CallS.use (jwsWord kid H) [] rfl rfl trivial ?_⟩
 rintro e H1 G' hle1 ⟨rfl, rfl⟩
 cases Wo.wordP 40 kid
 all_goals (conv => whnf)
 ·exact ⟨rfl, hle1, rfl⟩
 refine ⟨⟨_, Tryz.func142, rfl, by kernel_rfl⟩, CallS.use (jwsWord typ H1) [] rfl rfl trivial ?_⟩
 rintro e H2 G' hle2 ⟨rfl, rfl⟩
 (conv => whnf)
 exact ⟨rfl, hle1.trans hle2, rfl⟩
theorem head_sz (kid typ : ByteArray) (h1 : kid.size ≤ 40) (h2 : typ.size ≤ 40) : szJ (headJ kid typ) ≤ 200 := by
 have e1 : sAlg.size = 3 := rfl
 have e2 : sKid.size = 3 := rfl
 have e3 : sTyp.size = 3 := rfl
 have e4 : sHs.size = 5 := rfl
 unfold headJ
 rw [obj_sz]
 simp only [szMs, str_sz, e1, e2, e3, e4]
 omega
theorem head_right {kid typ : ByteArray} (h1 : Wo.wordP 40 kid = true) (h2 : Wo.wordP 40 typ = true) : rightJ (headJ kid typ) = true :=
 right3 (by decide) (by decide) (by decide) (told_lit (by decide)) (told_lit (by decide)) (told_lit (by decide)) (told_lit (s := sHs) (by decide)) (word_refl h1) (word_refl h2)
theorem header_ (kid typ : ByteArray) (h1 : Wo.wordP 40 kid = true) (h2 : Wo.wordP 40 typ = true) (H : Hp) : CallO Tryz.prog 117 [.si (.ag [.val (.string kid), .val (.string typ)])] H [] fun e H' G' => e = .ret (pv (.string ⟨(wrJ (headJ kid typ)).toArray⟩)) ∧ H.Le H' ∧ G' = [] := by
 have hsz := head_sz kid typ (word_size h1).1 (word_size h2).1
 have hwr := wr_of (headJ kid typ)
 have hp : printP (headJ kid typ) = (⟨(wrJ (headJ kid typ)).toArray⟩, 0) := by unfold printP; rw [if_pos (head_right h1 h2)]
 have hpr := fun k y t A n c B m d H => print_ (headJ kid typ) (sm_of _ (by omega)) (by omega) k y t A n c B m d H
 rw [hp] at hpr
 refine CallO.of_body tab Tryz.func117 rfl (nt := Tryz.f117.ntmps) rfl (by kernel_rfl) ?_
 (conv => whnf)
 refine WS.draw tab mixed (.take 2 (.take 3 (.take 6 (.take 7 (.alt 0 (.take 1 (.alt 4 (.take 5 (.alt 8 (.take 9 (.alt 10 (.alt 11 (.alt 12 (.take 13 (.take 14 (.take 15 (.take 16 (.take 17 .done))))) .no) .no) .no)) .no)) .no)) .no))))) (by kernel_rfl) [] ?_
 (conv => whnf)
 repeat' (first
  | exact trivial
  | exact rfl
  | exact ⟨rfl, trivial⟩
  | exact ⟨_, Tryz.func48, rfl, by kernel_rfl⟩
  | exact ⟨_, Tryz.func46, rfl, by kernel_rfl⟩
  | exact ⟨_, Tryz.func33, rfl, by kernel_rfl⟩
  | (refine CallS.use (Ob.str_ _ _) [] rfl rfl trivial ?_; rintro e H6 G' hle7 ⟨rfl, rfl, rfl⟩; (conv => whnf))
  | exact Nat.le_of_ble_eq_true rfl
  | (refine .inl ?_; intro g H7 hle8 hrd; (conv => whnf))
  | (refine CallS.use (obj_ [(sAlg, strJ sHs), (sKid, strJ kid), (sTyp, strJ typ)] (Nat.le_of_ble_eq_true rfl) (some ⟨g, 0, none⟩) 3 _ H7 (.cons (.bare 4 false sHs) (.cons (.bare 4 false kid) (.cons (.bare 4 false typ) .nil))) ⟨fun e => (nomatch e), fun a e => by injection e with e; subst e; exact hrd⟩ (Nat.zero_lt_succ _)) [] rfl rfl trivial ?_; rintro e H8 G' hle9 ⟨⟨B8, d8, rfl, hj8⟩, rfl⟩; (conv => whnf))
  | (refine CallS.use (hpr _ _ _ _ _ _ _ _ _ _ hj8) [] rfl rfl trivial ?_; rintro e H9 G' hle10 ⟨rfl, hle11, rfl⟩; (conv => whnf))
  | exact ⟨rfl, (hle8.trans hle9).trans hle10, rfl⟩
  | (refine And.intro ?_ ?_ <;> (conv => whnf)))
theorem bs_app (a b : List UInt8) : (⟨a.toArray⟩ : ByteArray) ++ ⟨b.toArray⟩ = ⟨(a ++ b).toArray⟩ := by
 have : ((⟨a.toArray⟩ : ByteArray) ++ ⟨b.toArray⟩).data = (a ++ b).toArray := by rw [ByteArray.data_append]; simp
 cases h : (⟨a.toArray⟩ : ByteArray) ++ ⟨b.toArray⟩
 rw [h] at this
 simpa using this
theorem bs_size (a : List UInt8) : (⟨a.toArray⟩ : ByteArray).size = a.length := List.size_toArray
theorem bs_cells (a : List UInt8) : byteCells ⟨a.toArray⟩ = bCells a := (cells_str a).symm
theorem signZ_ (kid typ : ByteArray) (pl key : List UInt8) (A : Option Addr) (c : Nat) (B : Option Addr) (d : Nat) (hn : pl.length ≤ 1000000) (hm : key.length ≤ 1000000) (H : Hp) (hb : BytesZ H A pl.length pl) (hk : BytesZ H B key.length key) :
  CallO Tryz.prog 68 [.si (.ag [.val (.string kid), .val (.string typ)]), pv (.slice A pl.length c), pv (.slice B key.length d)] H [] fun e H' G' => e = .ret (.tu [.ce (.val (.string (signP kid typ pl key).1)), .ce (.val (.int .i64 (signP kid typ pl key).2))]) ∧ H.Le H' ∧ G' = [] := by
 unfold signP
 refine CallO.of_body tab Tryz.func68 rfl (nt := Tryz.f68.ntmps) rfl (by kernel_rfl) ?_
 (conv => whnf)
 refine ⟨⟨_, Tryz.func115, rfl, by kernel_rfl⟩, CallS.use (right_ kid typ H) [] rfl rfl trivial ?_⟩
 rintro e H1 G' hle1 ⟨rfl, hle1', rfl⟩
 cases hw : (Wo.wordP 40 kid && Wo.wordP 40 typ)
 all_goals (conv => whnf)
 ·exact ⟨rfl, hle1, rfl⟩
 rw [if_neg (by decide)]
 simp only [Bool.and_eq_true] at hw
 refine br.of (fun h1 => ?_) (fun h1 => ?_) <;> (conv => whnf)
 ·have h1 := of_decide_eq_true h1
  rw [if_pos (by omega)]
  exact ⟨rfl, hle1, rfl⟩
 have h1 := of_decide_eq_false h1
 rw [if_neg (by omega)]
 refine br.of (fun h2 => ?_) (fun h2 => ?_) <;> (conv => whnf)
 ·have h2 := of_decide_eq_true h2
  rw [if_pos (by omega)]
  exact ⟨rfl, hle1, rfl⟩
 have h2 := of_decide_eq_false h2
 rw [if_neg (by omega)]
 refine ⟨⟨_, Tryz.func117, rfl, by kernel_rfl⟩, CallS.use (header_ kid typ hw.1 hw.2 H1) [] rfl rfl trivial ?_⟩
 rintro e H2 G' hle2 ⟨rfl, hle2', rfl⟩
 (conv => whnf)
 have z1 : ∀ a b : ByteArray, (a ++ b).size = a.size + b.size := fun a b => ByteArray.size_append
 have zd : (⟨#[46]⟩ : ByteArray) = ⟨([46] : List UInt8).toArray⟩ := rfl
 have l1 := encP_len _ (wrJ (headJ kid typ)) (Nat.lt_succ_self _)
 have l2 := encP_len _ pl (Nat.lt_succ_self _)
 have l5 := head_len hw.1 hw.2
 have lsg : (signedP kid typ pl).length = (encP (wrJ (headJ kid typ))).length + ((encP pl).length + 1) := by unfold signedP; rw [List.length_append, List.length_cons]
 have l4 : (hmac key (signedP kid typ pl)).length = 32 := sha_length _
 have l3 := encP_len _ (hmac key (signedP kid typ pl)) (Nat.lt_succ_self _)
 intro g cap H3 hle3 hcap hrd
 rw [bs_cells] at hrd
 rw [bs_size]
 (conv => whnf)
 refine ⟨⟨_, Tryz.func116, rfl, by kernel_rfl⟩, CallS.use (En.enc_ (wrJ (headJ kid typ)) (some ⟨g, 0, none⟩) cap (by omega) H3 (.lit rfl hrd)) [] rfl rfl trivial ?_⟩
 rintro e H4 G' hle4 ⟨rfl, hle4', rfl⟩
 (conv => whnf)
 refine ⟨by rw [bs_size]; show _ + 1 ≤ _; omega, ?_⟩
 (conv => whnf)
 have hleA := ((hle1.trans hle2).trans hle3).trans hle4
 refine ⟨⟨_, Tryz.func116, rfl, by kernel_rfl⟩, CallS.use (En.encZ_ pl A c hn H4 (hb.mono hleA)) [] rfl rfl trivial ?_⟩
 rintro e H5 G' hle5 ⟨rfl, hle5', rfl⟩
 (conv => whnf)
 refine ⟨by rw [z1, bs_size (encP (wrJ (headJ kid typ))), bs_size (encP pl)]; show _ + 1 + _ ≤ _; omega, ?_⟩
 have hsg : (⟨(encP (wrJ (headJ kid typ))).toArray⟩ : ByteArray) ++ ⟨#[46]⟩ ++ ⟨(encP pl).toArray⟩ = ⟨(signedP kid typ pl).toArray⟩ := by
  rw [zd, bs_app, bs_app]; unfold signedP; simp
 rw [hsg]
 (conv => whnf)
 refine ⟨by rw [bs_size]; show _ + 1 ≤ _; omega, ?_⟩
 (conv => whnf)
 intro g2 cap2 H6 hle6 hcap2 hrd2
 rw [bs_cells] at hrd2
 rw [bs_size]
 (conv => whnf)
 refine ⟨by decide, .inl ?_⟩
 intro g3 H7 hle7 hrd3
 (conv => whnf)
 have hleB := ((hleA.trans hle5).trans hle6).trans hle7
 refine ⟨⟨_, Tryz.func97, rfl, by kernel_rfl⟩, CallS.use (Sha.code key [signedP kid typ pl] B (some ⟨g3, 0, none⟩) key.length d 1 1 H7 ((hk.full (by omega)).mono hleB) ⟨_, rfl, hrd3, .cons ⟨_, _, _, rfl, (BytesAt.lit rfl hrd2).mono hle7⟩ .nil⟩ hm (by decide) (by simp only [List.flatten_cons, List.flatten_nil, List.append_nil]; omega)) [] rfl rfl trivial ?_⟩
 rintro e H8 G' hle8 ⟨⟨B8, m8, c8, rfl, hb8⟩, rfl⟩
 have hm8 := hb8.1
 simp only [List.flatten_cons, List.flatten_nil, List.append_nil] at hb8 hm8
 subst hm8
 (conv => whnf)
 refine ⟨⟨_, Tryz.func116, rfl, by kernel_rfl⟩, CallS.use (En.enc_ _ B8 c8 (by omega) H8 hb8) [] rfl rfl trivial ?_⟩
 rintro e H9 G' hle9 ⟨rfl, hle9', rfl⟩
 (conv => whnf)
 refine ⟨by rw [z1, bs_size (signedP kid typ pl), bs_size (encP (hmac key (signedP kid typ pl)))]; show _ + 1 + _ ≤ _; omega, ?_⟩
 have htk : (⟨(signedP kid typ pl).toArray⟩ : ByteArray) ++ ⟨#[46]⟩ ++ ⟨(encP (hmac key (signedP kid typ pl))).toArray⟩ = ⟨(tokenP kid typ pl key).toArray⟩ := by
  rw [zd, bs_app, bs_app]; unfold tokenP; simp
 rw [htk]
 (conv => whnf)
 exact ⟨rfl, (hleB.trans hle8).trans hle9, rfl⟩
theorem sign_ (kid typ : ByteArray) (pl key : List UInt8) (A : Option Addr) (c : Nat) (B : Option Addr) (d : Nat) (hn : pl.length ≤ 1000000) (hm : key.length ≤ 1000000) (H : Hp) (hb : BytesAt H A pl.length pl) (hk : BytesAt H B key.length key) :
  CallO Tryz.prog 68 [.si (.ag [.val (.string kid), .val (.string typ)]), pv (.slice A pl.length c), pv (.slice B key.length d)] H [] fun e H' G' => e = .ret (.tu [.ce (.val (.string (signP kid typ pl key).1)), .ce (.val (.int .i64 (signP kid typ pl key).2))]) ∧ H.Le H' ∧ G' = [] :=
 signZ_ kid typ pl key A c B d hn hm H hb.z hk.z
end Go.Kx.Jw
