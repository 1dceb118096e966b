/- Records: lists of values; numbers, hashes and names that may be. No condition of its own. -/
import Derived.Test.YtbjiioclhgdeeaaGreatDoorMB16
import Derived.Shelf.Strings.SlTrimAscii
namespace Go.Kx.Rc
open Go.Proofs Go.Kx Go.RowKit Go.Kx.Js Go.Kx.Pr Go.Kx.Rt Go.Kx.Ob Go.Kx.En
set_option maxRecDepth 20000
set_option linter.unusedSimpArgs false
namespace Tb
def T : Tab := [(114, { k := TK.st [(0, 3, 1), (1, 4, 1), (2, 9, 1), (3, 111, 1), (4, 112, 1)], agg := true, size := 5, bytes := 80, zero := [Z.i IntKind.i64, Z.b, Z.s, Z.sl, Z.sl] }), (111, { k := TK.slice 114, agg := false, size := 1, bytes := 24, zero := [Z.sl] }), (313, { k := TK.st [(0, 9, 1), (1, 114, 5)], agg := true, size := 6, bytes := 96, zero := [Z.s, Z.i IntKind.i64, Z.b, Z.s, Z.sl, Z.sl] }), (9, { k := TK.string, agg := false, size := 1, bytes := 16, zero := [Z.s] }), (3, { k := TK.int IntKind.i64, agg := false, size := 1, bytes := 8, zero := [Z.i IntKind.i64] }), (29, { k := TK.slice 3, agg := false, size := 1, bytes := 24, zero := [Z.sl] }), (4, { k := TK.bool, agg := false, size := 1, bytes := 1, zero := [Z.b] }), (5, { k := TK.int IntKind.u8, agg := false, size := 1, bytes := 1, zero := [Z.i IntKind.u8] }), (94, { k := TK.slice 5, agg := false, size := 1, bytes := 24, zero := [Z.sl] }), (52, { k := TK.st [(0, 9, 1), (1, 9, 1), (2, 4, 1), (3, 3, 1)], agg := true, size := 4, bytes := 48, zero := [Z.s, Z.s, Z.b, Z.i IntKind.i64] }), (30, { k := TK.int IntKind.i64, agg := false, size := 1, bytes := 8, zero := [Z.i IntKind.i64] }), (59, { k := TK.func, agg := false, size := 1, bytes := 8, zero := [Z.fn] }), (112, { k := TK.slice 313, agg := false, size := 1, bytes := 24, zero := [Z.sl] })]
set_option maxRecDepth 100000 in
theorem tab : TabOk Tryz.prog T := tabOk_mk (ts := [114, 111, 313, 9, 3, 29, 4, 5, 94, 52, 30, 59, 112]) (by kernel_rfl)
theorem mixed : Tryz.prog.follows .mixedOrders = true := by kernel_rfl
end Tb
def boolJ (b : Bool) : J := .mk 2 b ⟨#[]⟩ [] []
def listJ (js : List J) : J := .mk 5 false ⟨#[]⟩ js []
theorem bool_ (b : Bool) (H : Hp) : CallO Tryz.prog 60 [pv (.bool b)] H [] fun e H' G' => e = .ret (agJ 2 b ⟨#[]⟩ none 0 0 none 0 0) ∧ H' = H ∧ G' = [] := by
 refine CallO.of_body Tb.tab Tryz.func60 rfl (nt := Tryz.f60.ntmps) rfl (by kernel_rfl) ?_
 (conv => whnf)
 exact ⟨rfl, rfl, rfl⟩
theorem ones_Js {H : Hp} : ∀ {js : List J} {zs : List Value}, JsAt H js zs → ∀ u ∈ zs, u.oneCell' = true
 | _, _, .nil, u, hu => by simp at hu
 | _, _, .cons h1 h2, u, hu => by
  rcases List.mem_append.1 hu with hu | hu
  ·exact ones_J h1 u hu
  ·exact ones_Js h2 u hu
theorem clone0 (A : Option Addr) (n c : Nat) (zs : List Value) (hz : zs.length = n * 5) (hone : ∀ u ∈ zs, u.oneCell' = true) (h0 : 0 < n) (hn : n ≤ 1000000) (H : Hp) (hv : RdV H A zs) :
  CallO Tryz.prog 172 [pv (.slice A n c)] H [] fun e _ G' => e = .ret (.si (.ce (.self 0))) ∧ G' = [.row 114 5 n zs] := by
 refine CallO.of_body Tb.tab Tryz.func172 rfl (nt := Tryz.f172.ntmps) rfl (by kernel_rfl) ?_
 (conv => whnf)
 cases A with
 | none =>
  have := hv.1 rfl
  rw [this] at hz
  simp at hz
  omega
 | some a =>
  (conv => whnf)
  refine ⟨by decide, .inl ?_⟩
  intro g H2 hle hrd
  (conv => whnf)
  refine ⟨zs, hz, (hv.2 a rfl).mono hle, hone, fun h => absurd h (by omega), fun _ => ⟨rfl, [], rfl, hrd, ?_, ?_⟩⟩
  ·show (0 + n) * 81 ≤ _
   omega
  (conv => whnf)
  exact ⟨rfl, by rw [Nat.zero_add]; rfl⟩
theorem list_ (js : List J) (hml : js.length ≤ 1000000) (A : Option Addr) (c : Nat) (zs : List Value) (H : Hp) (hm : JsAt H js zs) (hv : RdV H A zs) (h0 : 0 < js.length) :
  CallO Tryz.prog 107 [pv (.slice A js.length c)] H [] fun e H' G' => (∃ B d, e = .ret (agJ 5 false ⟨#[]⟩ B js.length d none 0 0) ∧ JAt H' (listJ js) [.int .i64 5, .bool false, .string ⟨#[]⟩, .slice B js.length d, .slice none 0 0]) ∧ G' = [] := by
 have hcl : CallO Tryz.prog 172 [pv (.slice A js.length c)] H [] fun e H' G' => (∃ B d, e = .ret (pv (.slice B js.length d)) ∧ RdV H' B zs) ∧ G' = [] := by
  refine CallO.sub (CallO.frz (K := fun e H' G' => (∃ B d, e = .ret (pv (.slice B js.length d)) ∧ RdV H' B zs) ∧ G' = [.dead]) (clone0 A js.length c zs hm.length (ones_Js hm) h0 hml H hv) ?_) ?_
  ·rintro e H' G' hle ⟨rfl, rfl⟩
   refine ⟨0, 114, 5, _, _, rfl, fun hz => absurd hz (by omega), fun x H2 hle2 hfr => ?_⟩
   rcases hfr with ⟨rfl, h1, h2⟩ | ⟨g, o, cap, rfl, _, h2⟩
   ·omega
   ·exact ⟨⟨_, cap, rfl, fun e => (nomatch e), fun a e => by injection e with e; subst e; exact h2⟩, rfl⟩
  ·rintro e H' G' hle ⟨⟨B, d, rfl, hv⟩, rfl⟩
   exact ⟨_, [], [], rfl, trivial, rfl, ⟨B, d, rfl, hv⟩, rfl⟩
 refine CallO.of_body Tb.tab Tryz.func107 rfl (nt := Tryz.f107.ntmps) rfl (by kernel_rfl) ?_
 (conv => whnf)
 refine ⟨⟨_, Tryz.func172, rfl, by kernel_rfl⟩, CallS.use hcl [] rfl rfl trivial ?_⟩
 rintro e H1 G' hle1 ⟨⟨B, d, rfl, hv1⟩, rfl⟩
 (conv => whnf)
 exact ⟨⟨B, d, rfl, .mk rfl (hm.mono hle1) hv1 rfl .nil (Ob.RdV.nil _)⟩, rfl⟩
def intC (ns : List Int) : List Value := ns.map fun n => .int .i64 n
theorem intC_get {ns : List Int} {i : Nat} {x : Int} (h : ns[i]? = some x) : (intC ns)[i]? = some (.int .i64 x) := by unfold intC; rw [List.getElem?_map, h]; rfl
theorem index_ (q : FuncId) (P : Int → Bool) (hbd : Bodied Tryz.prog q) (hq : ∀ n H, CallO Tryz.prog q [pv (.int .i64 n)] H [] fun e H' G' => e = .ret (pv (.bool (P n))) ∧ H' = H ∧ G' = []) (b o c : Nat) (ns : List Int) (hl : ns.length ≤ 1000000) (H : Hp) (hrd : RdN H (some ⟨b, o, none⟩) 0 (intC ns)) :
  CallO Tryz.prog 251 [pv (.slice (some ⟨b, o, none⟩) ns.length c), .si (.ce (.fn (.func q) 0 []))] H [] fun e H' G' => (∃ v : Int, e = .ret (pv (.int .i64 v)) ∧ (0 ≤ v ↔ ns.any P = true)) ∧ H' = H ∧ G' = [] := by
 refine CallO.of_body Tb.tab Tryz.func251 rfl (nt := Tryz.f251.ntmps) rfl (by kernel_rfl) ?_
 (conv => whnf)
 refine WS.loop (fun k' F H4 G => ∃ i : Nat, i ≤ ns.length ∧ (ns.take i).any P = false ∧ k' = ns.length - i ∧ F = [(0, pv (.slice (some ⟨b, o, none⟩) ns.length c)), (1, .si (.ce (.fn (.func q) 0 []))), (7, pv (.int .i64 ns.length)), (8, pv (.int .i64 i))] ∧ H4 = H ∧ G = []) (ns.length + 1) ?_ ?_
 ·refine ⟨ns.length, by omega, _, _, [], ⟨0, by omega, rfl, rfl, rfl, rfl, rfl⟩, ?_⟩
  exact ⟨rfl, trivial, rfl, rfl, rfl, rfl, trivial⟩
 rintro k' F H4 G hle4 ⟨i, hi, htk, rfl, rfl, rfl, rfl⟩
 refine codeL.go Tb.tab ?_
 (conv => whnf)
 refine br.of (fun h1 => ?_) (fun h1 => ?_) <;> (conv => whnf)
 ·have h1 := of_decide_eq_true h1
  have hil : i < ns.length := by omega
  have hget : ns[i]? = some ns[i] := List.getElem?_eq_getElem hil
  generalize ns[i] = x at hget
  refine ⟨⟨by omega, by omega⟩, ⟨_, _, rfl⟩, ?_⟩
  (conv => whnf)
  refine ⟨.int .i64 x, ⟨b, o, rfl, ?_⟩, ?_⟩
  ·obtain ⟨_, _, e, hr2⟩ := hrd
   injection e with e; injection e with e1 e2; subst e1 e2
   have := hr2 i _ (intC_get hget)
   rw [Nat.add_zero] at this
   rw [show (i : Int).toNat * 1 = i by omega]
   exact this
  (conv => whnf)
  refine ⟨hbd, CallS.use (hq x H4) [] rfl rfl trivial ?_⟩
  rintro e H5 G' hle5 ⟨rfl, rfl, rfl⟩
  have hnx : (ns.take (i + 1)).any P = P x := by
   rw [List.take_add_one, List.any_append, htk, Bool.false_or, hget]
   simp
  cases hd : P x
  ·(conv => whnf)
   rw [wrap64 (x := (i : Int) + 1) (by omega) (by omega)]
   refine ⟨ns.length - (i + 1), by omega, _, _, [], ⟨i + 1, by omega, by rw [hnx]; exact hd, rfl, rfl, rfl, rfl⟩, ?_⟩
   exact ⟨rfl, trivial, rfl, rfl, rfl, rfl, trivial⟩
  ·(conv => whnf)
   refine ⟨⟨i, rfl, fun _ => ?_, fun _ => by omega⟩, rfl, rfl⟩
   rw [← List.take_append_drop (i + 1) ns, List.any_append, hnx, hd, Bool.true_or]
 ·have h1 := of_decide_eq_false h1
  obtain rfl : i = ns.length := by omega
  rw [List.take_length] at htk
  rw [htk]
  exact ⟨⟨-1, rfl, fun h => absurd h (by decide), fun h => (nomatch h)⟩, rfl, rfl⟩
theorem contains_ (q : FuncId) (P : Int → Bool) (hbd : Bodied Tryz.prog q) (hq : ∀ n H, CallO Tryz.prog q [pv (.int .i64 n)] H [] fun e H' G' => e = .ret (pv (.bool (P n))) ∧ H' = H ∧ G' = []) (b o c : Nat) (ns : List Int) (hl : ns.length ≤ 1000000) (H : Hp) (hrd : RdN H (some ⟨b, o, none⟩) 0 (intC ns)) :
  CallO Tryz.prog 178 [pv (.slice (some ⟨b, o, none⟩) ns.length c), .si (.ce (.fn (.func q) 0 []))] H [] fun e H' G' => e = .ret (pv (.bool (ns.any P))) ∧ H' = H ∧ G' = [] := by
 refine CallO.of_body Tb.tab Tryz.func178 rfl (nt := Tryz.f178.ntmps) rfl (by kernel_rfl) ?_
 (conv => whnf)
 refine ⟨⟨_, Tryz.func251, rfl, by kernel_rfl⟩, CallS.use (index_ q P hbd hq b o c ns hl H hrd) [] rfl rfl trivial ?_⟩
 rintro e H5 G' hle5 ⟨⟨v, rfl, hv⟩, rfl, rfl⟩
 (conv => whnf)
 have e1 : decide (v ≥ 0) = ns.any P := by
  cases hb : ns.any P
  ·exact decide_eq_false fun h => by have := hv.1 h; rw [hb] at this; cases this
  ·exact decide_eq_true (hv.2 hb)
 rw [e1]
 exact ⟨rfl, rfl, rfl⟩
def offC (n : Int) : Bool := decide (n < 0 ∨ n > 1099511627776)
def offN (n : Int) : Bool := decide (n < 1 ∨ n > 1099511627776)
theorem count1 (n : Int) (H : Hp) : CallO Tryz.prog 180 [pv (.int .i64 n)] H [] fun e H' G' => e = .ret (pv (.bool (offC n))) ∧ H' = H ∧ G' = [] := by
 refine CallO.of_body Tb.tab Tryz.func180 rfl (nt := Tryz.f180.ntmps) rfl (by kernel_rfl) ?_
 (conv => whnf)
 unfold offC
 by_cases h : n < 0
 ·rw [decide_eq_true h, decide_eq_true (Or.inl h)]
  (conv => whnf)
  exact ⟨rfl, rfl, rfl⟩
 ·rw [decide_eq_false h]
  (conv => whnf)
  have e : decide (n < 0 ∨ n > 1099511627776) = decide (n > 1099511627776) := decide_eq_decide.2 ⟨fun h2 => h2.resolve_left h, .inr⟩
  rw [e]
  exact ⟨rfl, rfl, rfl⟩
theorem count_ (b o c : Nat) (ns : List Int) (hl : ns.length ≤ 1000000) (H : Hp) (hrd : RdN H (some ⟨b, o, none⟩) 0 (intC ns)) :
  CallO Tryz.prog 112 [pv (.slice (some ⟨b, o, none⟩) ns.length c)] H [] fun e H' G' => e = .ret (pv (.bool (!ns.any offC))) ∧ H' = H ∧ G' = [] := by
 refine CallO.of_body Tb.tab Tryz.func112 rfl (nt := Tryz.f112.ntmps) rfl (by kernel_rfl) ?_
 (conv => whnf)
 refine ⟨⟨_, Tryz.func178, rfl, by kernel_rfl⟩, CallS.use (contains_ 180 offC ⟨_, Tryz.func180, rfl, by kernel_rfl⟩ count1 b o c ns hl H hrd) [] rfl rfl trivial ?_⟩
 rintro e H5 G' hle5 ⟨rfl, rfl, rfl⟩
 (conv => whnf)
 exact ⟨rfl, rfl, rfl⟩
def hashP (s : ByteArray) : Bool := decide (s.size = 43) && (decP s).isSome
theorem hashed_ (s : ByteArray) (hs : s.size ≤ 1000000) (H : Hp) : CallO Tryz.prog 109 [pv (.string s)] H [] fun e H' G' => e = .ret (pv (.bool (hashP s))) ∧ H.Le H' ∧ G' = [] := by
 refine CallO.of_body Tb.tab Tryz.func109 rfl (nt := Tryz.f109.ntmps) rfl (by kernel_rfl) ?_
 (conv => whnf)
 refine ⟨⟨_, Tryz.func174, rfl, by kernel_rfl⟩, CallS.use (dec_ s hs H) [] rfl rfl trivial ?_⟩
 rintro e H2 G' hle2 ⟨hr, rfl⟩
 unfold hashP
 have e1 : (((s.size : Nat) : Int) == 43) = decide (s.size = 43) := by
  by_cases h : s.size = 43
  ·rw [h]; rfl
  ·rw [decide_eq_false h]; simp; omega
 rcases hr with ⟨hd, rfl⟩ | ⟨L, B, m, c, hd, rfl, _⟩
 ·(conv => whnf)
  rw [e1, hd]
  cases decide (s.size = 43)
  ·(conv => whnf)
   exact ⟨rfl, hle2, rfl⟩
  ·(conv => whnf)
   exact ⟨rfl, hle2, rfl⟩
 ·(conv => whnf)
  rw [e1, hd]
  cases decide (s.size = 43)
  ·(conv => whnf)
   exact ⟨rfl, hle2, rfl⟩
  ·(conv => whnf)
   exact ⟨rfl, hle2, rfl⟩
end Go.Kx.Rc
namespace Go.Kx.Rc
open Go.Proofs Go.Kx Go.RowKit Go.Kx.Js Go.Kx.Pr Go.Kx.Rt Go.Kx.Ob Go.Kx.En
set_option maxRecDepth 20000
set_option linter.unusedSimpArgs false
def setL : List UInt8 := [65, 66, 67, 68, 69, 70, 71, 72, 73, 74, 75, 76, 77, 78, 79, 80, 81, 82, 83, 84, 85, 86, 87, 88, 89, 90, 97, 98, 99, 100, 101, 102, 103, 104, 105, 106, 107, 108, 109, 110, 111, 112, 113, 114, 115, 116, 117, 118, 119, 120, 121, 122, 48, 49, 50, 51, 52, 53, 54, 55, 56, 57, 45, 46, 95]
theorem dw_nil {p : UInt8 → Bool} : ∀ {l : List UInt8}, l.dropWhile p = [] ↔ ∀ x ∈ l, p x = true
 | [] => by simp
 | a :: r => by
  rw [List.dropWhile_cons]
  cases h : p a with
  | true => simp only [if_true, List.mem_cons, forall_eq_or_imp, h, true_and]; exact dw_nil
  | false => simp [h]
theorem trimS_nil (l : List UInt8) : (Lib.trimS l setL = []) ↔ l.all (setL.contains ·) = true := by
 unfold Lib.trimS Lib.trimLeftS Lib.trimRightS
 rw [dw_nil, List.all_eq_true]
 constructor
 ·intro h
  have hn : l.reverse.dropWhile (setL.contains ·) = [] := by
   cases hd : l.reverse.dropWhile (setL.contains ·) with
   | nil => rfl
   | cons a r =>
    have h1 := List.head?_dropWhile_not (setL.contains ·) l.reverse
    rw [hd] at h1 h
    have h2 := h a (by simp)
    simp only [List.head?_cons] at h1
    rw [h2] at h1
    cases h1
  rw [dw_nil] at hn
  exact fun x hx => hn x (by simpa using hx)
 ·intro h x hx
  have : x ∈ l := by
   have h1 := List.mem_reverse.1 hx
   have h2 := (List.dropWhile_sublist _).mem h1
   simpa using h2
  exact h x this
theorem ascii_of {l : List UInt8} (h : l.all (fun c => decide (c.toNat < 128)) = true) : ∀ b ∈ l, b.toNat < 128 := fun b hb => of_decide_eq_true (List.all_eq_true.1 h b hb)
theorem trim_ (s : ByteArray) (hs : s.size ≤ 1000000) (H : Hp) : CallO Tryz.prog 173 [pv (.string s), pv (.string ⟨setL.toArray⟩)] H [] fun e H' G' => e = .ret (pv (.string ⟨(Lib.trimS s.data.toList setL).toArray⟩)) ∧ H' = H ∧ G' = [] := by
 refine (CallO.of_calls (P := Tryz.prog) (args := [.string s, .string ⟨setL.toArray⟩]) (R := fun v => v = .string ⟨(Lib.trimS s.data.toList setL).toArray⟩) fun w _ _ => (Any.strings_Trim_laid Tryz.laysTrim (by kernel_rfl) s ⟨setL.toArray⟩ w (by omega) (by decide) (ascii_of_all (by decide))).mono ?_).mono ?_
 ·rintro e w' ⟨rfl, hb⟩
  exact ⟨_, rfl, rfl, hb.os, hb.tape, hb.output, hb.size, fun k hk _ => hb.block k hk⟩
 ·rintro e H' G' hle ⟨v, rfl, rfl, rfl, rfl⟩
  exact ⟨rfl, rfl, rfl⟩
def nameP (s : ByteArray) : Bool := s.data.toList.all (setL.contains ·) && (decide (1 ≤ s.size) && decide (s.size ≤ 40))
theorem name_ (s : ByteArray) (hs : s.size ≤ 1000000) (H : Hp) : CallO Tryz.prog 108 [pv (.string s)] H [] fun e H' G' => e = .ret (pv (.bool (nameP s))) ∧ H' = H ∧ G' = [] := by
 have hst := trimS_nil s.data.toList
 have hsl : s.data.toList.length = s.size := by rw [Array.length_toList]; rfl
 refine CallO.of_body Tb.tab Tryz.func108 rfl (nt := Tryz.f108.ntmps) rfl (by kernel_rfl) ?_
 (conv => whnf)
 refine br.of (fun h1 => ?_) (fun h1 => ?_) <;> (conv => whnf)
 ·simp only [Bool.not_eq_true', strEq_false] at h1
  have h0 : 1 ≤ s.size := by
   rcases Nat.eq_zero_or_pos s.size with h | h
   ·refine absurd ?_ h1
    have : s.data.toList = [] := List.eq_nil_of_length_eq_zero (by omega)
    have h3 : s.data = #[] := Array.toList_inj.1 this
    cases s; simpa using h3
   ·exact h
  refine br.of (fun h2 => ?_) (fun h2 => ?_) <;> (conv => whnf)
  ·have h2 := of_decide_eq_true h2
   refine ⟨⟨_, Tryz.func173, rfl, by kernel_rfl⟩, CallS.use (trim_ s hs H) [] rfl rfl trivial ?_⟩
   rintro e H1 G' hle1 ⟨rfl, rfl, rfl⟩
   (conv => whnf)
   refine ⟨congrArg (fun b => SE.ret (pv (.bool b))) ?_, rfl, rfl⟩
   rw [Bool.eq_iff_iff]
   have hx : strEq ⟨(Lib.trimS s.data.toList setL).toArray⟩ ⟨#[]⟩ = true ↔ s.data.toList.all (setL.contains ·) = true := by
    rw [strEq_iff, ← hst]
    constructor
    ·intro h; have := congrArg (fun b : ByteArray => b.data.toList) h; simpa using this
    ·intro h; rw [h]
   refine Iff.trans hx ?_
   unfold nameP
   simp only [Bool.and_eq_true, decide_eq_true_eq]
   constructor
   ·intro h; exact ⟨h, h0, by omega⟩
   ·intro h; exact h.1
  ·have h2 := of_decide_eq_false h2
   refine ⟨congrArg (fun b => SE.ret (pv (.bool b))) ?_, rfl, rfl⟩
   unfold nameP
   rw [decide_eq_false (show ¬ s.size ≤ 40 by omega), Bool.and_false, Bool.and_false]
 ·simp only [Bool.not_eq_false', strEq_iff] at h1
  subst h1
  exact ⟨rfl, rfl, rfl⟩
structure Acc where
 name : ByteArray
 hash : ByteArray
 on : Bool
 age : Int
def accC (a : Acc) : List SC := [.val (.string a.name), .val (.string a.hash), .val (.bool a.on), .val (.int .i64 a.age)]
def accP (a : Acc) : Bool := nameP a.name && (hashP a.hash && !offC a.age)
theorem accRight_ (a : Acc) (h1 : a.name.size ≤ 1000000) (h2 : a.hash.size ≤ 1000000) (H : Hp) : CallO Tryz.prog 104 [.si (.ag (accC a))] H [] fun e H' G' => e = .ret (pv (.bool (accP a))) ∧ H.Le H' ∧ G' = [] := by
 refine CallO.of_body Tb.tab Tryz.func104 rfl (nt := Tryz.f104.ntmps) rfl (by kernel_rfl) ?_
 (conv => whnf)
 unfold accP
 refine ⟨⟨_, Tryz.func108, rfl, by kernel_rfl⟩, CallS.use (name_ a.name h1 H) [] rfl rfl trivial ?_⟩
 rintro e H2 G' hle2 ⟨rfl, rfl, rfl⟩
 cases nameP a.name
 ·(conv => whnf)
  exact ⟨rfl, .refl _, rfl⟩
 (conv => whnf)
 refine ⟨⟨_, Tryz.func109, rfl, by kernel_rfl⟩, CallS.use (hashed_ a.hash h2 H2) [] rfl rfl trivial ?_⟩
 rintro e H3 G' hle3 ⟨rfl, hle3', rfl⟩
 cases hashP a.hash
 ·(conv => whnf)
  exact ⟨rfl, hle3, rfl⟩
 (conv => whnf)
 refine ⟨by decide, .inl ?_⟩
 intro g H4 hle4 hrd
 (conv => whnf)
 refine ⟨⟨_, Tryz.func112, rfl, by kernel_rfl⟩, CallS.use (count_ g 0 1 [a.age] (by simp) H4 hrd) [] rfl rfl trivial ?_⟩
 rintro e H5 G' hle5 ⟨rfl, rfl, rfl⟩
 (conv => whnf)
 have e1 : [a.age].any offC = offC a.age := by simp
 rw [e1]
 exact ⟨rfl, hle3.trans hle4, rfl⟩
end Go.Kx.Rc
namespace Go.Kx.Rc
open Go.Proofs Go.Kx Go.RowKit Go.Kx.Js Go.Kx.Pr Go.Kx.Rt Go.Kx.Ob Go.Kx.En
set_option maxRecDepth 20000
set_option linter.unusedSimpArgs false
def rowP (ok : Bool) (js : List J) : ByteArray × Int := if ok = false then (⟨#[]⟩, 10) else if (printP (listJ js)).1.size > 4096 then (⟨#[]⟩, 11) else ((printP (listJ js)).1, 0)
theorem row_ (ok : Bool) (js : List J) (hml : js.length ≤ 1000000) (hsm : smJ (listJ js)) (hlen : 6 * (wrJ (listJ js)).length ≤ 8000000) (A : Option Addr) (c : Nat) (zs : List Value) (H : Hp) (hm : JsAt H js zs) (hv : RdV H A zs) (h0 : 0 < js.length) :
  CallO Tryz.prog 56 [pv (.bool ok), pv (.slice A js.length c)] H [] fun e H' G' => e = .ret (.tu [.ce (.val (.string (rowP ok js).1)), .ce (.val (.int .i64 (rowP ok js).2))]) ∧ H.Le H' ∧ G' = [] := by
 refine CallO.of_body Tb.tab Tryz.func56 rfl (nt := Tryz.f56.ntmps) rfl (by kernel_rfl) ?_
 (conv => whnf)
 unfold rowP
 cases ok
 ·(conv => whnf)
  exact ⟨rfl, .refl _, rfl⟩
 (conv => whnf)
 refine ⟨⟨_, Tryz.func107, rfl, by kernel_rfl⟩, CallS.use (list_ js hml A c zs H hm hv h0) [] rfl rfl trivial ?_⟩
 rintro e H2 G' hle2 ⟨⟨B, d, rfl, hj⟩, rfl⟩
 (conv => whnf)
 refine ⟨⟨_, Tryz.func106, rfl, by kernel_rfl⟩, CallS.use (print_ (listJ js) hsm hlen 5 false ⟨#[]⟩ B js.length d none 0 0 H2 hj) [] rfl rfl trivial ?_⟩
 rintro e H3 G' hle3 ⟨rfl, hle3', rfl⟩
 (conv => whnf)
 refine br.of (fun h => ?_) (fun h => ?_) <;> (conv => whnf)
 ·have h := of_decide_eq_true h
  rw [if_neg (by decide), if_pos (by omega)]
  exact ⟨rfl, hle2.trans hle3, rfl⟩
 ·have h := of_decide_eq_false h
  rw [if_neg (by decide), if_neg (by omega)]
  exact ⟨rfl, hle2.trans hle3, rfl⟩
def aK : ByteArray := ⟨#[97]⟩
def accJ (a : Acc) : List J := [strJ aK, strJ a.name, strJ a.hash, boolJ a.on, numJ a.age]
def accT (a : Acc) : ByteArray × Int := rowP (accP a) (accJ a)
theorem accText_ (a : Acc) (h1 : a.name.size ≤ 100000) (h2 : a.hash.size ≤ 100000) (h3 : -9223372036854775808 ≤ a.age ∧ a.age ≤ 9223372036854775807) (hsm : smJ (listJ (accJ a))) (hlen : 6 * (wrJ (listJ (accJ a))).length ≤ 8000000) (H : Hp) :
  CallO Tryz.prog 54 [.si (.ag (accC a))] H [] fun e H' G' => e = .ret (.tu [.ce (.val (.string (accT a).1)), .ce (.val (.int .i64 (accT a).2))]) ∧ H.Le H' ∧ G' = [] := by
 refine CallO.of_body Tb.tab Tryz.func54 rfl (nt := Tryz.f54.ntmps) rfl (by kernel_rfl) ?_
 (conv => whnf)
 refine WS.draw Tb.tab Tb.mixed (.take 0 (.take 3 (.take 4 (.take 6 (.take 7 (.take 9 (.take 10 (.take 12 (.take 13 (.alt 1 (.alt 2 (.alt 5 (.alt 8 (.alt 11 (.alt 14 (.alt 15 (.alt 16 (.take 17 (.take 18 (.take 19 (.take 20 .done)))) .no) .no) .no) .no) .no) .no) .no) .no)))))))))) (by kernel_rfl) [] ?_
 (conv => whnf)
 refine And.intro ?_ trivial
 (conv => whnf)
 refine ⟨⟨_, Tryz.func104, rfl, by kernel_rfl⟩, CallS.use (accRight_ a (by omega) (by omega) H) [] rfl rfl trivial ?_⟩
 rintro e H2 G' hle2 ⟨rfl, hle2', rfl⟩
 (conv => whnf)
 refine ⟨⟨rfl, trivial⟩, ?_⟩
 (conv => whnf)
 refine And.intro ?_ trivial
 (conv => whnf)
 refine ⟨⟨_, Tryz.func58, rfl, by kernel_rfl⟩, CallS.use (Ob.str_ aK H2) [] rfl rfl trivial ?_⟩
 rintro e H3 G' hle3 ⟨rfl, rfl, rfl⟩
 (conv => whnf)
 refine ⟨⟨rfl, trivial⟩, ?_⟩
 (conv => whnf)
 refine And.intro ?_ trivial
 (conv => whnf)
 refine ⟨⟨_, Tryz.func58, rfl, by kernel_rfl⟩, CallS.use (Ob.str_ a.name H3) [] rfl rfl trivial ?_⟩
 rintro e H4 G' hle4 ⟨rfl, rfl, rfl⟩
 (conv => whnf)
 refine ⟨⟨rfl, trivial⟩, ?_⟩
 (conv => whnf)
 refine And.intro ?_ trivial
 (conv => whnf)
 refine ⟨⟨_, Tryz.func58, rfl, by kernel_rfl⟩, CallS.use (Ob.str_ a.hash H4) [] rfl rfl trivial ?_⟩
 rintro e H5 G' hle5 ⟨rfl, rfl, rfl⟩
 (conv => whnf)
 refine ⟨⟨rfl, trivial⟩, ?_⟩
 (conv => whnf)
 refine And.intro ?_ trivial
 (conv => whnf)
 refine ⟨⟨_, Tryz.func60, rfl, by kernel_rfl⟩, CallS.use (bool_ a.on H5) [] rfl rfl trivial ?_⟩
 rintro e H6 G' hle6 ⟨rfl, rfl, rfl⟩
 (conv => whnf)
 refine ⟨⟨rfl, trivial⟩, ?_⟩
 (conv => whnf)
 refine And.intro ?_ trivial
 (conv => whnf)
 refine ⟨⟨_, Tryz.func62, rfl, by kernel_rfl⟩, CallS.use (Ob.num_ a.age h3.1 h3.2 H6) [] rfl rfl trivial ?_⟩
 rintro e H7 G' hle7 ⟨rfl, rfl, rfl⟩
 (conv => whnf)
 refine ⟨⟨rfl, trivial⟩, ?_⟩
 (conv => whnf)
 refine And.intro ?_ trivial
 (conv => whnf)
 refine ⟨by decide, .inl ?_⟩
 intro g H8 hle8 hrd
 (conv => whnf)
 refine ⟨⟨rfl, trivial⟩, ?_⟩
 (conv => whnf)
 refine And.intro ?_ trivial
 (conv => whnf)
 have hjs : JsAt H8 (accJ a) [.int .i64 4, .bool false, .string aK, .slice none 0 0, .slice none 0 0, .int .i64 4, .bool false, .string a.name, .slice none 0 0, .slice none 0 0, .int .i64 4, .bool false, .string a.hash, .slice none 0 0, .slice none 0 0, .int .i64 2, .bool a.on, .string ⟨#[]⟩, .slice none 0 0, .slice none 0 0, .int .i64 3, .bool false, .string (Lb.itoaB a.age), .slice none 0 0, .slice none 0 0] :=
  .cons (.bare 4 false aK) (.cons (.bare 4 false a.name) (.cons (.bare 4 false a.hash) (.cons (.bare 2 a.on ⟨#[]⟩) (.cons (.bare 3 false (Lb.itoaB a.age)) .nil))))
 refine ⟨⟨_, Tryz.func56, rfl, by kernel_rfl⟩, CallS.use (row_ (accP a) (accJ a) (Nat.le_of_ble_eq_true rfl) hsm hlen (some ⟨g, 0, none⟩) 5 _ H8 hjs ⟨fun e => (nomatch e), fun q e => by injection e with e; subst e; exact hrd⟩ (Nat.lt_of_lt_of_le Nat.zero_lt_one (Nat.le_of_ble_eq_true rfl))) [] rfl rfl trivial ?_⟩
 rintro e H9 G' hle9 ⟨rfl, hle9', rfl⟩
 (conv => whnf)
 refine ⟨⟨rfl, trivial⟩, ?_⟩
 (conv => whnf)
 exact ⟨rfl, hle2.trans (hle8.trans hle9), rfl⟩
end Go.Kx.Rc
namespace Go.Kx.Bk
open Go.Proofs Go.Kx Go.RowKit Go.Kx.Wl Go.Kx.Dk Go.Kx.Cr Go.Kx.Wa Go.Kx.Kv Go.Kx.Ka Go.Kx.Tu Go.Kx.Rc
set_option maxRecDepth 20000
set_option linter.unusedSimpArgs false
def RPut (p : Pg) (s : TN) (st : Stp) (x : SE) (H' : Hp) (G' : List SB) : Prop :=
 x = .ret (.tu []) ∧ ∃ n3 f3 v, TblM H' f3 n3 (doN s st) ∧ StpAt H' st v ∧ G' = pgH { p with n2 := n3, f2 := f3, ps := p.ps ++ [(st, v)] }
theorem pput_ (key : ByteArray) (hk : 1 ≤ key.size ∧ key.size ≤ 128) (t : ByteArray) (htl : t.size ≤ 4096) (p : Pg) (hps : p.ps.length < 64) (hov : p.over = false) (s : TN) (H : Hp) (ht : TblM H p.f2 p.n2 s) :
  CallO Tryz.prog 51 [gP, pv (.string key), pv (.string t), pv (.int .i64 0)] H (pgG p) fun x H' G' => RPut p s ⟨1, key, t.data.toList⟩ x H' G' ∧ H.Le H' := by
 have htn : t.data.toList.length = t.size := by rw [Array.length_toList]; rfl
 have hpt := fun A m cp H ht hv => put_ key hk A m cp t.data.toList (by omega) p.d p.l p.n p.f p.age p.n2 p.f2 p.ps hps p.cage s H hv ht
 refine CallO.of_body Tb.tab Tryz.func51 rfl (nt := Tryz.f51.ntmps) rfl (by kernel_rfl) ?_
 (conv => whnf)
 refine ⟨⟨_, Tryz.func82, rfl, by kernel_rfl⟩, CallS.use (done_ 0 p H) [0, 1, 2, 3, 4, 5, 6, 7, 8, 9] rfl rfl ⟨rfl, rfl, rfl, rfl, rfl, rfl, rfl, rfl, rfl, rfl, trivial⟩ ?_⟩
 rintro x H2 G' hle2 ⟨rfl, rfl, rfl⟩
 (conv => whnf)
 intro g cp H7 hle7 hcp hrd7
 (conv => whnf)
 have hst : strOf t.data.toList = t := by unfold strOf; simp
 have hsl : SlAt H7 (some ⟨g, 0, none⟩) t.size cp t.data.toList := ⟨htn.symm, hcp, .inr ⟨g, 0, rfl, by rw [cells_str, hst]; exact hrd7⟩⟩
 refine ⟨⟨_, Tryz.func83, rfl, by kernel_rfl⟩, CallS.use (hpt (some ⟨g, 0, none⟩) _ cp H7 (ht.mono hle7) hsl) [0, 1, 2, 3, 4, 5, 6, 7, 8] rfl rfl ⟨rfl, rfl, rfl, rfl, rfl, rfl, rfl, ?_, rfl, trivial⟩ ?_⟩
 ·rw [hov]; exact rfl
 rintro x H8 G' hle8 ⟨rfl, hle8', n3, f3, v, ht8, hv8, rfl⟩
 (conv => whnf)
 refine ⟨⟨_, Tryz.func82, rfl, by kernel_rfl⟩, CallS.use (done_ 0 { p with n2 := n3, f2 := f3, ps := p.ps ++ [(⟨1, key, t.data.toList⟩, v)], over := false } H8) [0, 1, 2, 3, 4, 5, 6, 7, 10, 9] rfl rfl ⟨rfl, rfl, rfl, rfl, rfl, rfl, rfl, rfl, rfl, rfl, trivial⟩ ?_⟩
 rintro x H9 G' hle9 ⟨rfl, rfl, rfl⟩
 (conv => whnf)
 refine ⟨⟨rfl, n3, f3, v, ht8, hv8, ?_⟩, hle7.trans hle8⟩
 obtain ⟨d, l, n, f, age, n2, f2, ps, cage, over, lim⟩ := p
 obtain rfl : over = false := hov
 exact rfl
theorem pputE_ (key t : ByteArray) (e : Int) (he : e ≠ 0) (p : Pg) (H : Hp) :
  CallO Tryz.prog 51 [gP, pv (.string key), pv (.string t), pv (.int .i64 e)] H (pgG p) fun x H' G' => x = .pan (failE e) ∧ H' = H ∧ G' = pgG p := by
 have e1 : (e == 0) = false := by simp; exact he
 have hd := done_ e p H
 rw [e1] at hd
 refine CallO.of_body Tb.tab Tryz.func51 rfl (nt := Tryz.f51.ntmps) rfl (by kernel_rfl) ?_
 (conv => whnf)
 refine ⟨⟨_, Tryz.func82, rfl, by kernel_rfl⟩, CallS.use hd [0, 1, 2, 3, 4, 5, 6, 7, 8, 9] rfl rfl ⟨rfl, rfl, rfl, rfl, rfl, rfl, rfl, rfl, rfl, rfl, trivial⟩ ?_⟩
 rintro x H2 G' hle2 ⟨rfl, rfl, rfl⟩
 (conv => whnf)
 exact ⟨rfl, rfl, rfl⟩
theorem singleK_size (k s : ByteArray) (hk : k.size ≤ 3) (hs : s.size ≤ 40) : 1 ≤ (singleK k s).size ∧ (singleK k s).size ≤ 128 := by
 have h1 := esc_len s.data.toList
 have h2 : s.data.toList.length = s.size := by rw [Array.length_toList]; rfl
 have h3 := esc_len k.data.toList
 have h4 : k.data.toList.length = k.size := by rw [Array.length_toList]; rfl
 have e : (singleK k s).size = (1 + ((esc k.data.toList).length + 2)) + (1 + ((esc s.data.toList).length + 2)) := by
  show (strOf (keyB [.txt k, .txt s])).size = _
  rw [Tu.str_len]
  show ((textB k.data.toList) ++ ((textB s.data.toList) ++ [])).length = _
  rw [List.length_append, List.append_nil]
  have e2 : ∀ l, (textB l).length = 1 + ((esc l).length + 2) := fun l => by unfold textB; simp; omega
  rw [e2, e2]
 omega
theorem putAccount_ (a : Acc) (h1 : a.name.size ≤ 40) (h2 : a.hash.size ≤ 100000) (h3 : -9223372036854775808 ≤ a.age ∧ a.age ≤ 9223372036854775807) (hsm : Rt.smJ (listJ (accJ a))) (hlen : 6 * (Pr.wrJ (listJ (accJ a))).length ≤ 8000000) (hok : (accT a).2 = 0) (htl : (accT a).1.size ≤ 4096)
  (p : Pg) (hps : p.ps.length < 64) (hov : p.over = false) (s : TN) (H : Hp) (ht : TblM H p.f2 p.n2 s) :
  CallO Tryz.prog 20 [gP, .si (.ag (accC a))] H (pgG p) fun x H' G' => x = .ret (.tu []) ∧ H.Le H' ∧ ∃ n3 f3 v, TblM H' f3 n3 (doN s ⟨1, singleK aK a.name, (accT a).1.data.toList⟩) ∧ StpAt H' ⟨1, singleK aK a.name, (accT a).1.data.toList⟩ v ∧
   G' = [dataB p.d, diskB p.d, logB p.l, recsB p.l, .map .string p.n p.f, storeB p.age, .map .string n3 f3, changeB 11 p.cage p.over, .dead, pageB p.lim, .box 52 (accC a), stepsB (p.ps ++ [(⟨1, singleK aK a.name, (accT a).1.data.toList⟩, v)])] := by
 have htx := accText_ a (by omega) h2 h3 hsm hlen
 rw [hok] at htx
 have hpp := fun H ht => pput_ (singleK aK a.name) (singleK_size aK a.name (by decide) h1) (accT a).1 htl p hps hov s H ht
 refine CallO.of_body Tb.tab Tryz.func20 rfl (nt := Tryz.f20.ntmps) rfl (by kernel_rfl) ?_
 (conv => whnf)
 refine ⟨⟨_, Tryz.func54, rfl, by kernel_rfl⟩, CallS.use (htx H) [] rfl rfl trivial ?_⟩
 rintro x H2 G' hle2 ⟨rfl, hle2', rfl⟩
 (conv => whnf)
 refine ⟨⟨_, Tryz.func52, rfl, by kernel_rfl⟩, CallS.use (single_ aK a.name (by decide) (by omega) H2) [] rfl rfl trivial ?_⟩
 rintro x H3 G' hle3 ⟨rfl, hle3', rfl⟩
 (conv => whnf)
 refine ⟨⟨_, Tryz.func51, rfl, by kernel_rfl⟩, CallS.use (hpp H3 (ht.mono (hle2.trans hle3))) [0, 1, 2, 3, 4, 5, 6, 7, 8, 9] rfl rfl ⟨rfl, rfl, rfl, rfl, rfl, rfl, rfl, rfl, rfl, rfl, trivial⟩ ?_⟩
 rintro x H4 G' hle4 ⟨⟨rfl, n3, f3, v, ht4, hv4, rfl⟩, hle4'⟩
 (conv => whnf)
 exact ⟨rfl, (hle2.trans hle3).trans hle4, n3, f3, v, ht4, hv4, rfl⟩
end Go.Kx.Bk
namespace Go.Kx.Bk
open Go.Proofs Go.Kx Go.RowKit Go.Kx.Wl Go.Kx.Dk Go.Kx.Cr Go.Kx.Wa Go.Kx.Kv Go.Kx.Ka Go.Kx.Tu Go.Kx.Rc
set_option maxRecDepth 20000
set_option linter.unusedSimpArgs false
def bookB (lim : Int) : SB := .box 91 [.ptr 5 0, .val (.int .i64 lim)]
def bookG (d : Dk) (l : Lg) (n : Nat) (f : Value → Option Value) (age : Nat) (lim : Int) : List SB := [dataB d, diskB d, logB l, recsB l, .map .string n f, storeB age, bookB lim]
abbrev bP : SV := .si (.ce (.ptr 6 0))
def RBook (d : Dk) (D : List UInt8) (h g : Nat) (ls : List (List Stp)) (lim : Int) (e : SE) (H' : Hp) (G' : List SB) : Prop :=
 e = .ret (.tu [.ce (.ptr 6 0), .ce (.val (.int .i64 0))]) ∧ ∃ wr nr xs n f, TblM H' f n (tnOf ls) ∧ nr = ls.length ∧ G' = bookG (Dk.put d D wr) (lgOf h g ls nr xs) n f 0 lim
theorem bopen_ (d : Dk) (hd : Fine d) (D : List UInt8) (h g : Nat) (ls : List (List Stp)) (hop : openP d.bs = ⟨D, h, g, 16 + costs (ls.map recS), ls.map recS⟩) (hr : ∀ l ∈ ls, ∀ p ∈ l, RightSt p) (hroom : 16 + costs (ls.map recS) < d.bs.length / 2) (lim : Int) (h1 : 1 ≤ lim) (h2 : lim ≤ 1099511627776) (H : Hp) :
  CallO Tryz.prog 10 [dP, pv (.int .i64 lim)] H (diskG d) fun e H' G' => RBook d D h g ls lim e H' G' ∧ H.Le H' := by
 have ho := fun H => Ka.open_ d hd D h g ls hop hr hroom H
 refine CallO.of_body Tb.tab Tryz.func10 rfl (nt := Tryz.f10.ntmps) rfl (by kernel_rfl) ?_
 (conv => whnf)
 rw [decide_eq_false (show ¬ lim < 1 by omega)]
 (conv => whnf)
 rw [decide_eq_false (show ¬ lim > 1099511627776 by omega)]
 (conv => whnf)
 refine ⟨⟨_, Tryz.func42, rfl, by kernel_rfl⟩, CallS.use (ho H) [0, 1] rfl rfl ⟨rfl, rfl, trivial⟩ ?_⟩
 rintro e H2 G' hle2 ⟨⟨rfl, wr, nr, xs, n, f, ht, hnr, rfl⟩, hle2'⟩
 (conv => whnf)
 exact ⟨⟨rfl, wr, nr, xs, n, f, ht, hnr, rfl⟩, hle2⟩
theorem blen_ (d : Dk) (l : Lg) (n : Nat) (f : Value → Option Value) (age : Nat) (lim : Int) (H : Hp) :
  CallO Tryz.prog 34 [bP] H (bookG d l n f age lim) fun e H' G' => e = .ret (iV n) ∧ H' = H ∧ G' = bookG d l n f age lim := by
 refine CallO.of_body Tb.tab Tryz.func34 rfl (nt := Tryz.f34.ntmps) rfl (by kernel_rfl) ?_
 (conv => whnf)
 refine ⟨⟨_, Tryz.func79, rfl, by kernel_rfl⟩, CallS.use (len_ d l n f age H) [0, 1, 2, 3, 4, 5] rfl rfl ⟨rfl, rfl, rfl, rfl, rfl, rfl, trivial⟩ ?_⟩
 rintro e H2 G' hle2 ⟨rfl, rfl, rfl⟩
 (conv => whnf)
 exact ⟨rfl, rfl, rfl⟩
theorem page_ (d : Dk) (l : Lg) (n : Nat) (f : Value → Option Value) (age : Nat) (lim : Int) (H : Hp) :
  CallO Tryz.prog 47 [bP] H (bookG d l n f age lim) fun e H' G' => e = .ret (.si (.ce (.ptr 10 0))) ∧ H' = H ∧
   G' = [dataB d, diskB d, logB l, recsB l, .map .string n f, storeB age, bookB lim, .map .string n f, .box 171 [.ptr 5 0, .self 7, .self 9, .val (.int .i64 age), .val (.bool false)], stepsB [], .box 105 [.ptr 8 0, .val (.int .i64 lim)]] := by
 refine CallO.of_body Tb.tab Tryz.func47 rfl (nt := Tryz.f47.ntmps) rfl (by kernel_rfl) ?_
 (conv => whnf)
 refine WS.draw Tb.tab Tb.mixed (.take 0 (.take 1 (.take 2 (.take 3 (.take 5 (.take 6 (.take 7 (.take 8 (.alt 4 (.take 9 (.alt 10 (.take 11 .done) .no)) .no))))))))) (by kernel_rfl) [] ?_
 (conv => whnf)
 refine And.intro ?_ trivial
 (conv => whnf)
 refine ⟨⟨_, Tryz.func95, rfl, by kernel_rfl⟩, CallS.use (begin_ d l n f age H) [0, 1, 2, 3, 4, 5] rfl rfl ⟨rfl, rfl, rfl, rfl, rfl, rfl, trivial⟩ ?_⟩
 rintro e H2 G' hle2 ⟨rfl, rfl, rfl⟩
 (conv => whnf)
 refine ⟨⟨rfl, rfl, rfl, rfl, rfl, rfl, rfl, trivial⟩, ?_⟩
 (conv => whnf)
 repeat' (first
  | exact trivial
  | exact rfl
  | exact ⟨rfl, rfl, rfl⟩
  | (refine And.intro ?_ ?_ <;> (conv => whnf)))
end Go.Kx.Bk
namespace Go.Kx.Bk
open Go.Proofs Go.Kx Go.RowKit Go.Kx.Wl Go.Kx.Dk Go.Kx.Cr Go.Kx.Wa Go.Kx.Kv Go.Kx.Ka Go.Kx.Tu Go.Kx.Rc
set_option maxRecDepth 20000
set_option linter.unusedSimpArgs false
namespace Ta
def T : Tab := [(5, { k := TK.int IntKind.u8, agg := false, size := 1, bytes := 1, zero := [Z.i IntKind.u8] }), (94, { k := TK.slice 5, agg := false, size := 1, bytes := 24, zero := [Z.sl] }), (9, { k := TK.string, agg := false, size := 1, bytes := 16, zero := [Z.s] }), (4, { k := TK.bool, agg := false, size := 1, bytes := 1, zero := [Z.b] }), (3, { k := TK.int IntKind.i64, agg := false, size := 1, bytes := 8, zero := [Z.i IntKind.i64] }), (105, { k := TK.st [(0, 103, 1), (1, 3, 1)], agg := true, size := 2, bytes := 16, zero := [Z.p, Z.i IntKind.i64] }), (91, { k := TK.st [(0, 87, 1), (1, 3, 1)], agg := true, size := 2, bytes := 16, zero := [Z.p, Z.i IntKind.i64] }), (143, { k := TK.st [(0, 30, 1)], agg := true, size := 1, bytes := 8, zero := [Z.i IntKind.i64] }), (171, { k := TK.st [(0, 87, 1), (1, 156, 1), (2, 161, 1), (3, 3, 1), (4, 4, 1)], agg := true, size := 5, bytes := 56, zero := [Z.p, Z.m, Z.sl, Z.i IntKind.i64, Z.b] }), (158, { k := TK.st [(0, 152, 1), (1, 156, 1), (2, 3, 1)], agg := true, size := 3, bytes := 24, zero := [Z.p, Z.m, Z.i IntKind.i64] }), (213, { k := TK.st [(0, 5, 1), (1, 9, 1), (2, 94, 1)], agg := true, size := 3, bytes := 48, zero := [Z.i IntKind.u8, Z.s, Z.sl] }), (30, { k := TK.int IntKind.i64, agg := false, size := 1, bytes := 8, zero := [Z.i IntKind.i64] }), (20, { k := TK.ifc, agg := false, size := 1, bytes := 16, zero := [Z.ifc] }), (149, { k := TK.ifc, agg := false, size := 1, bytes := 16, zero := [Z.ifc] }), (52, { k := TK.st [(0, 9, 1), (1, 9, 1), (2, 4, 1), (3, 3, 1)], agg := true, size := 4, bytes := 48, zero := [Z.s, Z.s, Z.b, Z.i IntKind.i64] }), (24, { k := TK.ptr 91, agg := false, size := 1, bytes := 8, zero := [Z.p] }), (56, { k := TK.func, agg := false, size := 1, bytes := 8, zero := [Z.fn] }), (47, { k := TK.ptr 105, agg := false, size := 1, bytes := 8, zero := [Z.p] }), (103, { k := TK.ptr 171, agg := false, size := 1, bytes := 8, zero := [Z.p] }), (87, { k := TK.ptr 158, agg := false, size := 1, bytes := 8, zero := [Z.p] }), (1, { k := TK.func, agg := false, size := 1, bytes := 8, zero := [Z.fn] }), (161, { k := TK.slice 213, agg := false, size := 1, bytes := 24, zero := [Z.sl] }), (152, { k := TK.ptr 216, agg := false, size := 1, bytes := 8, zero := [Z.p] }), (156, { k := TK.map 9 94, agg := false, size := 1, bytes := 8, zero := [Z.m] }), (159, { k := TK.slice 94, agg := false, size := 1, bytes := 24, zero := [Z.sl] }), (216, { k := TK.st [(0, 25, 1), (1, 3, 1), (2, 3, 1), (3, 3, 1), (4, 159, 1), (5, 4, 1)], agg := true, size := 6, bytes := 64, zero := [Z.p, Z.i IntKind.i64, Z.i IntKind.i64, Z.i IntKind.i64, Z.sl, Z.b] }), (25, { k := TK.ptr 96, agg := false, size := 1, bytes := 8, zero := [Z.p] }), (96, { k := TK.st [(0, 94, 1), (1, 4, 1), (2, 4, 1), (3, 93, 2), (5, 3, 1)], agg := true, size := 6, bytes := 56, zero := [Z.sl, Z.b, Z.b, Z.i IntKind.i64, Z.i IntKind.i64, Z.i IntKind.i64] }), (93, { k := TK.st [(0, 3, 1), (1, 3, 1)], agg := true, size := 2, bytes := 16, zero := [Z.i IntKind.i64, Z.i IntKind.i64] })]
set_option maxRecDepth 100000 in
theorem tab : TabOk Tryz.prog T := tabOk_mk (ts := [5, 94, 9, 4, 3, 105, 91, 143, 171, 158, 213, 30, 20, 149, 52, 24, 56, 47, 103, 87, 1, 161, 152, 156, 159, 216, 25, 96, 93]) (by kernel_rfl)
end Ta
def annP : Acc := ⟨⟨#[97, 110, 110]⟩, ⟨#[65, 65, 65, 65, 65, 65, 65, 65, 65, 65, 65, 65, 65, 65, 65, 65, 65, 65, 65, 65, 65, 65, 65, 65, 65, 65, 65, 65, 65, 65, 65, 65, 65, 65, 65, 65, 65, 65, 65, 65, 65, 65, 65]⟩, false, 0⟩
theorem annOk : accP annP = true := by decide +kernel
theorem annT : (accT annP).2 = 0 ∧ (accT annP).1.size ≤ 4096 := by decide +kernel
theorem annL : 6 * (Pr.wrJ (listJ (accJ annP))).length ≤ 8000000 := by decide +kernel
theorem annS : Rt.smJ (listJ (accJ annP)) := by
 simp [listJ, accJ, Rt.smJ, Rt.smJs, Rt.smMs, Ob.strJ, boolJ, Ob.numJ]
 decide +kernel
def annY : SB := .box 52 (accC annP)
def annG (p : Pg) (n3 : Nat) (f3 : Value → Option Value) (st : List (Stp × Value)) : List SB :=
 [dataB p.d, diskB p.d, logB p.l, recsB p.l, .map .string p.n p.f, storeB p.age, .map .string n3 f3, changeB 11 p.cage p.over, .dead, pageB p.lim, annY, stepsB st]
theorem ann_ (p : Pg) (hps : p.ps.length < 64) (hov : p.over = false) (s : TN) (H : Hp) (ht : TblM H p.f2 p.n2 s) :
  CallO Tryz.prog 36 [gP] H (pgG p) fun x H' G' => x = .pan (failE 53) ∧ H.Le H' ∧ ∃ n3 f3 st, G' = annG p n3 f3 st := by
 have hpa := putAccount_ annP (by decide) (by decide) (by decide) annS annL annT.1 annT.2 p hps hov s H ht
 refine CallO.of_body Ta.tab Tryz.func36 rfl (nt := Tryz.f36.ntmps) rfl (by kernel_rfl) ?_
 (conv => whnf)
 refine ⟨⟨_, Tryz.func20, rfl, by kernel_rfl⟩, CallS.use hpa [0, 1, 2, 3, 4, 5, 6, 7, 8, 9] rfl rfl ⟨rfl, rfl, rfl, rfl, rfl, rfl, rfl, rfl, rfl, rfl, trivial⟩ ?_⟩
 rintro x H2 G' hle2 ⟨rfl, hle2', n3, f3, v, ht2, hv2, rfl⟩
 (conv => whnf)
 refine ⟨⟨_, Tryz.func37, rfl, by kernel_rfl⟩, CallS.use (fail_ 53 (by decide) { p with n2 := n3, f2 := f3, ps := p.ps ++ [(⟨1, singleK aK annP.name, (accT annP).1.data.toList⟩, v)] } H2) [0, 1, 2, 3, 4, 5, 6, 7, 11, 9] rfl rfl ⟨rfl, rfl, rfl, rfl, rfl, rfl, rfl, rfl, rfl, rfl, trivial⟩ ?_⟩
 rintro x H3 G' hle3 ⟨rfl, rfl, rfl⟩
 (conv => whnf)
 exact ⟨rfl, hle2, n3, f3, _, rfl⟩
def erB (e : Int) : SB := .box 30 [.val (.int .i64 e)]
theorem annCatch (d : Dk) (l : Lg) (n : Nat) (f : Value → Option Value) (age : Nat) (lim : Int) (n3 : Nat) (f3 : Value → Option Value) (st : List (Stp × Value)) (H : Hp) :
  CallDO Tryz.prog 96 [.si (.ce (.ptr 11 0))] (.panicking (failE 53)) H [dataB d, diskB d, logB l, recsB l, .map .string n f, storeB age, bookB lim, .map .string n3 f3, .box 171 [.ptr 5 0, .self 7, .self 13, .val (.int .i64 age), .val (.bool false)], .dead, .box 105 [.ptr 8 0, .val (.int .i64 lim)], erB 0, annY, stepsB st]
   fun u H' G' => u = .panicking [⟨failV 53, true, false⟩] ∧ H' = H ∧ G' = [dataB d, diskB d, logB l, recsB l, .map .string n f, storeB age, bookB lim, .map .string n3 f3, .box 171 [.ptr 5 0, .self 7, .self 13, .val (.int .i64 age), .val (.bool false)], .dead, .box 105 [.ptr 8 0, .val (.int .i64 lim)], erB 53, annY, stepsB st] := by
 refine CallDO.of_body Ta.tab Tryz.func96 rfl rfl rfl rfl (nt := Tryz.f96.ntmps) rfl (by kernel_rfl) ?_
 (conv => whnf)
 repeat' (first
  | exact trivial
  | exact rfl
  | exact ⟨trivial, trivial, rfl, trivial⟩
  | exact ⟨rfl, rfl, rfl⟩
  | (refine And.intro ?_ ?_ <;> (conv => whnf)))
def chB (j age : Nat) (over : Bool) : SB := .box 171 [.ptr 5 0, .self 7, .self j, .val (.int .i64 age), .val (.bool over)]
def pgB (lim : Int) : SB := .box 105 [.ptr 8 0, .val (.int .i64 lim)]
theorem annTried (d : Dk) (l : Lg) (n : Nat) (f : Value → Option Value) (age : Nat) (lim : Int) (s : TN) (H : Hp) (ht : TblM H f n s) :
  CallO Tryz.prog 48 [.si (.ce (.fn (.func 36) 0 [])), .si (.ce (.ptr 10 0))] H [dataB d, diskB d, logB l, recsB l, .map .string n f, storeB age, bookB lim, .map .string n f, chB 9 age false, stepsB [], pgB lim]
   fun x H' G' => x = .ret (pv (.int .i64 53)) ∧ H.Le H' ∧ ∃ n3 f3 st, G' = [dataB d, diskB d, logB l, recsB l, .map .string n f, storeB age, bookB lim, .map .string n3 f3, chB 13 age false, .dead, pgB lim, erB 53, annY, stepsB st] := by
 have ha := ann_ ⟨d, l, n, f, age, n, f, [], age, false, lim⟩ (Nat.lt_of_lt_of_le Nat.zero_lt_one (Nat.le_of_ble_eq_true rfl)) rfl s H ht
 refine CallO.of_bodyD Ta.tab Tryz.func48 rfl (pre := [_]) rfl rfl rfl (nt := Tryz.f48.ntmps) rfl (by kernel_rfl) [4] ?_
 (conv => whnf)
 refine ⟨⟨_, Tryz.func96, rfl, by kernel_rfl⟩, ?_⟩
 (conv => whnf)
 intro ds vs
 (conv => whnf)
 refine ⟨⟨_, Tryz.func36, rfl, by kernel_rfl⟩, CallS.use ha [0, 1, 2, 3, 4, 5, 7, 8, 9, 10] rfl rfl ⟨rfl, rfl, rfl, rfl, rfl, rfl, rfl, rfl, rfl, rfl, trivial⟩ ?_⟩
 rintro x H2 G' hle2 ⟨rfl, hle2', n3, f3, st, rfl⟩
 (conv => whnf)
 refine Js.CallDS.use (annCatch d l n f age lim n3 f3 st H2) ?_
 rintro u' H3 G' hle3 ⟨rfl, rfl, rfl⟩
 (conv => whnf)
 exact ⟨rfl, hle2, n3, f3, st, rfl⟩
theorem annDo (d : Dk) (l : Lg) (n : Nat) (f : Value → Option Value) (age : Nat) (lim : Int) (s : TN) (H : Hp) (ht : TblM H f n s) :
  CallO Tryz.prog 16 [bP, .si (.ce (.fn (.func 36) 0 []))] H (bookG d l n f age lim) fun x H' G' => x = .ret (pv (.int .i64 53)) ∧ H.Le H' ∧ G' = bookG d l n f age lim := by
 refine CallO.of_body Ta.tab Tryz.func16 rfl (nt := Tryz.f16.ntmps) rfl (by kernel_rfl) ?_
 (conv => whnf)
 refine ⟨⟨_, Tryz.func47, rfl, by kernel_rfl⟩, CallS.use (page_ d l n f age lim H) [0, 1, 2, 3, 4, 5, 6] rfl rfl ⟨rfl, rfl, rfl, rfl, rfl, rfl, rfl, trivial⟩ ?_⟩
 rintro x H2 G' hle2 ⟨rfl, rfl, rfl⟩
 (conv => whnf)
 refine ⟨⟨_, Tryz.func48, rfl, by kernel_rfl⟩, CallS.use (annTried d l n f age lim s H2 ht) [0, 1, 2, 3, 4, 5, 6, 7, 8, 9, 10] rfl rfl ⟨rfl, rfl, rfl, rfl, rfl, rfl, rfl, rfl, rfl, rfl, rfl, trivial⟩ ?_⟩
 rintro x H3 G' hle3 ⟨rfl, hle3', n3, f3, st, rfl⟩
 (conv => whnf)
 refine ⟨⟨_, Tryz.func49, rfl, by kernel_rfl⟩, CallS.use (cancel_ d l n f age n3 f3 st age false H3) [0, 1, 2, 3, 4, 5, 7, 8, 13] rfl rfl ⟨rfl, rfl, rfl, rfl, rfl, rfl, rfl, rfl, rfl, trivial⟩ ?_⟩
 rintro x H4 G' hle4 ⟨rfl, rfl, rfl⟩
 (conv => whnf)
 exact ⟨rfl, hle3, rfl⟩
end Go.Kx.Bk
namespace Go.Kx.Bk
open Go.Proofs Go.Kx Go.RowKit Go.Kx.Wl Go.Kx.Dk Go.Kx.Cr Go.Kx.Wa Go.Kx.Kv Go.Kx.Ka Go.Kx.Tu Go.Kx.Rc
set_option maxRecDepth 20000
set_option linter.unusedSimpArgs false
namespace Tc
def T : Tab := [(5, { k := TK.int IntKind.u8, agg := false, size := 1, bytes := 1, zero := [Z.i IntKind.u8] }), (94, { k := TK.slice 5, agg := false, size := 1, bytes := 24, zero := [Z.sl] }), (9, { k := TK.string, agg := false, size := 1, bytes := 16, zero := [Z.s] }), (4, { k := TK.bool, agg := false, size := 1, bytes := 1, zero := [Z.b] }), (3, { k := TK.int IntKind.i64, agg := false, size := 1, bytes := 8, zero := [Z.i IntKind.i64] }), (29, { k := TK.slice 3, agg := false, size := 1, bytes := 24, zero := [Z.sl] }), (22, { k := TK.slice 9, agg := false, size := 1, bytes := 24, zero := [Z.sl] }), (105, { k := TK.st [(0, 103, 1), (1, 3, 1)], agg := true, size := 2, bytes := 16, zero := [Z.p, Z.i IntKind.i64] }), (91, { k := TK.st [(0, 87, 1), (1, 3, 1)], agg := true, size := 2, bytes := 16, zero := [Z.p, Z.i IntKind.i64] }), (143, { k := TK.st [(0, 30, 1)], agg := true, size := 1, bytes := 8, zero := [Z.i IntKind.i64] }), (171, { k := TK.st [(0, 87, 1), (1, 156, 1), (2, 161, 1), (3, 3, 1), (4, 4, 1)], agg := true, size := 5, bytes := 56, zero := [Z.p, Z.m, Z.sl, Z.i IntKind.i64, Z.b] }), (158, { k := TK.st [(0, 152, 1), (1, 156, 1), (2, 3, 1)], agg := true, size := 3, bytes := 24, zero := [Z.p, Z.m, Z.i IntKind.i64] }), (213, { k := TK.st [(0, 5, 1), (1, 9, 1), (2, 94, 1)], agg := true, size := 3, bytes := 48, zero := [Z.i IntKind.u8, Z.s, Z.sl] }), (30, { k := TK.int IntKind.i64, agg := false, size := 1, bytes := 8, zero := [Z.i IntKind.i64] }), (20, { k := TK.ifc, agg := false, size := 1, bytes := 16, zero := [Z.ifc] }), (149, { k := TK.ifc, agg := false, size := 1, bytes := 16, zero := [Z.ifc] }), (24, { k := TK.ptr 91, agg := false, size := 1, bytes := 8, zero := [Z.p] }), (56, { k := TK.func, agg := false, size := 1, bytes := 8, zero := [Z.fn] }), (25, { k := TK.ptr 96, agg := false, size := 1, bytes := 8, zero := [Z.p] }), (87, { k := TK.ptr 158, agg := false, size := 1, bytes := 8, zero := [Z.p] }), (47, { k := TK.ptr 105, agg := false, size := 1, bytes := 8, zero := [Z.p] }), (103, { k := TK.ptr 171, agg := false, size := 1, bytes := 8, zero := [Z.p] }), (1, { k := TK.func, agg := false, size := 1, bytes := 8, zero := [Z.fn] }), (161, { k := TK.slice 213, agg := false, size := 1, bytes := 24, zero := [Z.sl] }), (152, { k := TK.ptr 216, agg := false, size := 1, bytes := 8, zero := [Z.p] }), (156, { k := TK.map 9 94, agg := false, size := 1, bytes := 8, zero := [Z.m] }), (159, { k := TK.slice 94, agg := false, size := 1, bytes := 24, zero := [Z.sl] }), (96, { k := TK.st [(0, 94, 1), (1, 4, 1), (2, 4, 1), (3, 93, 2), (5, 3, 1)], agg := true, size := 6, bytes := 56, zero := [Z.sl, Z.b, Z.b, Z.i IntKind.i64, Z.i IntKind.i64, Z.i IntKind.i64] }), (216, { k := TK.st [(0, 25, 1), (1, 3, 1), (2, 3, 1), (3, 3, 1), (4, 159, 1), (5, 4, 1)], agg := true, size := 6, bytes := 64, zero := [Z.p, Z.i IntKind.i64, Z.i IntKind.i64, Z.i IntKind.i64, Z.sl, Z.b] }), (93, { k := TK.st [(0, 3, 1), (1, 3, 1)], agg := true, size := 2, bytes := 16, zero := [Z.i IntKind.i64, Z.i IntKind.i64] })]
set_option maxRecDepth 100000 in
theorem tab : TabOk Tryz.prog T := tabOk_mk (ts := [5, 94, 9, 4, 3, 29, 22, 105, 91, 143, 171, 158, 213, 30, 20, 149, 24, 56, 25, 87, 47, 103, 1, 161, 152, 156, 159, 96, 216, 93]) (by kernel_rfl)
end Tc
def cntN (l : List ByteArray) (c : ByteArray) : Nat := l.countP fun d => strEq d c
theorem cntN_snoc (l : List ByteArray) (x c : ByteArray) : cntN (l ++ [x]) c = cntN l c + if x = c then 1 else 0 := by
 unfold cntN
 rw [List.countP_append, List.countP_cons, List.countP_nil]
 by_cases h : x = c
 ·subst h
  rw [if_pos (strEq_iff.2 rfl), if_pos rfl]
 ·rw [if_neg (fun e => h (strEq_iff.1 e)), if_neg h]
theorem cntN_le (l : List ByteArray) (c : ByteArray) : cntN l c ≤ l.length := List.countP_le_length
def stL (done : List ByteArray) : List ByteArray → List Stp
 | [] => []
 | x :: r => cntS x (cntN done x + 1) :: stL (done ++ [x]) r
def outL (done : List ByteArray) : List ByteArray → List Int
 | [] => []
 | x :: r => ((cntN done x + 1 : Nat) : Int) :: outL (done ++ [x]) r
theorem stL_snoc (x : ByteArray) : ∀ (l done : List ByteArray), stL done (l ++ [x]) = stL done l ++ [cntS x (cntN (done ++ l) x + 1)]
 | [], done => by simp [stL]
 | a :: r, done => by
  rw [List.cons_append, stL, stL_snoc x r (done ++ [a]), stL]
  simp
theorem outL_snoc (x : ByteArray) : ∀ (l done : List ByteArray), outL done (l ++ [x]) = outL done l ++ [((cntN (done ++ l) x + 1 : Nat) : Int)]
 | [], done => by simp [outL]
 | a :: r, done => by
  rw [List.cons_append, outL, outL_snoc x r (done ++ [a]), outL]
  simp
theorem stL_len : ∀ (l done : List ByteArray), (stL done l).length = l.length
 | [], _ => rfl
 | a :: r, done => by show _ + 1 = _; rw [stL_len r]; rfl
theorem outL_len : ∀ (l done : List ByteArray), (outL done l).length = l.length
 | [], _ => rfl
 | a :: r, done => by show _ + 1 = _; rw [outL_len r]; rfl
def Over (lim : Int) (done xs : List ByteArray) : Prop := ∃ i x, xs[i]? = some x ∧ ¬ ((cntN (done ++ xs.take i) x : Nat) : Int) < lim
def CntInv (t : Tbl) (done : List ByteArray) : Prop := ∀ c, 1 ≤ c.size → c.size ≤ 40 → CntAt t c (cntN done c)
theorem cntK_inj {a b : ByteArray} (h : cntK a = cntK b) : a = b := by
 have h1 : keyB [.txt nK, .txt a] = keyB [.txt nK, .txt b] := by
  have := congrArg (fun s : ByteArray => s.data.toList) h
  unfold cntK singleK at this
  simpa only [strOf_list] using this
 have h2 : textB nK.data.toList ++ (textB a.data.toList ++ []) = textB nK.data.toList ++ (textB b.data.toList ++ []) := h1
 obtain ⟨_, h3⟩ := text_inj h2
 obtain ⟨h4, _⟩ := text_inj h3
 cases a
 cases b
 congr 1
 exact Array.toList_inj.1 h4
theorem CntInv.next {s : TN} {done : List ByteArray} (h : CntInv s.1 done) (x : ByteArray) : CntInv (doN s (cntS x (cntN done x + 1))).1 (done ++ [x]) := by
 intro c h1 h2
 have hc := h c h1 h2
 rw [cntN_snoc]
 show CntAt (doS s.1 _) c _
 unfold CntAt doS
 by_cases he : x = c
 ·subst he
  rw [if_pos rfl]
  refine .inr ⟨by omega, ?_⟩
  show (if cntK x = cntK x then _ else _) = _
  rw [if_pos rfl]
  rfl
 ·rw [if_neg he, Nat.add_zero]
  have hk : cntK c ≠ cntK x := fun e => he (cntK_inj e).symm
  show (_ ∧ (if cntK c = cntK x then _ else _) = none) ∨ (_ ∧ (if cntK c = cntK x then _ else _) = _)
  rw [if_neg hk]
  exact hc
def nmB (A : Option Addr) (n c : Nat) : SB := .box 22 [.val (.slice A n c)]
def outB (j : Nat) : SB := .box 29 [.self j]
def nilB : SB := .box 29 [.val (.slice none 0 0)]
def outRow (os : List Int) : SB := .row 3 1 os.length (os.map (.int .i64 ·))
def NmsAt (H : Hp) (A : Option Addr) (xs : List ByteArray) : Prop := xs = [] ∨ ∃ b o, A = some ⟨b, o, none⟩ ∧ RdN H A 0 (xs.map .string)
def cntG (p : Pg) (A : Option Addr) (n c : Nat) (os : List Int) : List SB := [dataB p.d, diskB p.d, logB p.l, recsB p.l, .map .string p.n p.f, storeB p.age, .map .string p.n2 p.f2, changeB 12 p.cage p.over, .dead, pageB p.lim, nmB A n c, outB 13, stepsB p.ps, outRow os]
def RCnt (Ok : Prop) (Bad : Int → Prop) (p : Pg) (s : TN) (done xs : List ByteArray) (A : Option Addr) (n c : Nat) (x : SE) (H' : Hp) (G' : List SB) : Prop :=
 ∃ n3 f3 ps os, G' = cntG { p with n2 := n3, f2 := f3, ps := ps } A n c os ∧
  ((Ok ∧ x = .ret (.tu []) ∧ os = outL done xs ∧ TblM H' f3 n3 (allN s (stL done xs)) ∧ ps.map (·.1) = stL done xs ∧ StsOk H' ps) ∨ ∃ er, er ≠ 0 ∧ Bad er ∧ x = .pan (failE er))
theorem counted_ (done xs : List ByteArray) (hx : ∀ x ∈ xs, 1 ≤ x.size ∧ x.size ≤ 40) (hxl : xs.length ≤ 60) (hdl : done.length ≤ 1000000) (A : Option Addr) (cp : Nat) (p : Pg) (hps : p.ps = []) (hov : p.over = false) (s : TN) (hinv : CntInv s.1 done) (H : Hp) (hE : ErrH H) (hA : NmsAt H A xs) (ht : TblM H p.f2 p.n2 s) :
  CallO Tryz.prog 39 [gP, .si (.ce (.ptr 10 0)), .si (.ce (.ptr 11 0))] H (pgG p ++ [nmB A xs.length cp, nilB]) fun x H' G' => RCnt (¬ Over p.lim done xs) (fun er => er = 14 ∧ Over p.lim done xs) p s done xs A xs.length cp x H' G' ∧ H.Le H' := by
 obtain ⟨d, l, n, f, age, n2, f2, ps, cage, over, lim⟩ := p
 obtain rfl : ps = [] := hps
 obtain rfl : over = false := hov
 refine CallO.of_body Tc.tab Tryz.func39 rfl (nt := Tryz.f39.ntmps) rfl (by kernel_rfl) ?_
 (conv => whnf)
 refine WS.moveRow 8 7 2 rfl rfl rfl ?_
 (conv => whnf)
 refine WS.nilCell 11 0 3 1 rfl rfl ?_
 (conv => whnf)
 refine WS.loop (fun k' F H4 G => ∃ (i : Nat) (n3 : Nat) (f3 : Value → Option Value) (ps : List (Stp × Value)), i ≤ xs.length ∧ TblM H4 f3 n3 (allN s (stL done (xs.take i))) ∧ CntInv (allN s (stL done (xs.take i))).1 (done ++ xs.take i) ∧ ps.map (·.1) = stL done (xs.take i) ∧ StsOk H4 ps ∧ (∀ j x, j < i → xs[j]? = some x → ((cntN (done ++ xs.take j) x : Nat) : Int) < lim) ∧
   k' = xs.length - i ∧ F = [(0, gP), (2, .si (.ce (.ptr 11 0))), (7, pv (.slice A xs.length cp)), (8, iV xs.length), (9, iV i)] ∧ H.Le H4 ∧ G = cntG ⟨d, l, n, f, age, n3, f3, ps, cage, false, lim⟩ A xs.length cp (outL done (xs.take i))) (xs.length + 1) ?_ ?_
 ·refine ⟨xs.length, by omega, _, _, [0, 1, 2, 3, 4, 5, 6, 7, 8, 9, 10, 11, 12, 13], ⟨0, n2, f2, [], by omega, ht, by rw [List.take_zero, List.append_nil]; exact hinv, rfl, fun q hq => by simp at hq, fun j x hj => absurd hj (Nat.not_lt_zero j), rfl, rfl, .refl _, rfl⟩, ?_⟩
  exact ⟨rfl, ⟨rfl, rfl, rfl, rfl, rfl, rfl, rfl, rfl, trivial, rfl, rfl, rfl, rfl, rfl, trivial⟩, rfl, rfl, rfl, rfl, rfl, trivial⟩
 rintro k' F H4 G hle4 ⟨i, n3, f3, ps, hi, ht4, hin4, hps4, hok4, hun, rfl, rfl, hle, rfl⟩
 have hpl : ps.length = i := by have := congrArg List.length hps4; rw [List.length_map, stL_len, List.length_take] at this; omega
 refine codeL.go Tc.tab ?_
 (conv => whnf)
 refine br.of (fun h1 => ?_) (fun h1 => ?_) <;> (conv => whnf)
 ·have h1 := of_decide_eq_true h1
  have hil : i < xs.length := by omega
  have hget : xs[i]? = some xs[i] := List.getElem?_eq_getElem hil
  have hxi := hx xs[i] (List.getElem_mem hil)
  generalize xs[i] = c at hget hxi
  rcases hA with h0 | ⟨b, o, rfl, hrd⟩
  ·subst h0; exact absurd hil (Nat.not_lt_zero i)
  refine ⟨⟨by omega, by omega⟩, ⟨_, _, rfl⟩, ?_⟩
  (conv => whnf)
  refine ⟨.string c, ⟨b, o, rfl, ?_⟩, ?_⟩
  ·obtain ⟨_, _, e, hr2⟩ := hrd
   injection e with e; injection e with e1 e2; subst e1 e2
   have := hr2 i (.string c) (by rw [List.getElem?_map, hget]; rfl)
   show H4 _ (_ + (i : Int).toNat * 1) = _
   rw [show (i : Int).toNat * 1 = i by omega]
   exact hle _ _ _ (by simpa using this)
  (conv => whnf)
  have hcl := cntN_le (done ++ xs.take i) c
  rw [List.length_append, List.length_take] at hcl
  have hci := hin4 c hxi.1 hxi.2
  generalize hk : cntN (done ++ xs.take i) c = k at hcl hci
  have hnx := next_ c hxi.1 hxi.2 k (by omega) ⟨d, l, n, f, age, n3, f3, ps, cage, false, lim⟩ (by show ps.length < 64; omega) rfl (allN s (stL done (xs.take i))) hci H4 (hE.mono hle) ht4
  refine ⟨⟨_, Tryz.func40, rfl, by kernel_rfl⟩, CallS.use hnx [0, 1, 2, 3, 4, 5, 6, 7, 12, 9] rfl rfl ⟨rfl, rfl, rfl, rfl, rfl, rfl, rfl, rfl, rfl, rfl, trivial⟩ ?_⟩
  rintro x H5 G' hle5 ⟨hle5', hyes, hno⟩
  by_cases hlt : (k : Int) < lim
  ·obtain ⟨rfl, n5, f5, v, ht5, hv5, rfl⟩ := hyes hlt
   (conv => whnf)
   have hin5 := hin4.next c
   rw [hk] at hin5
   have hst : stL done (xs.take (i + 1)) = stL done (xs.take i) ++ [cntS c (k + 1)] := by rw [List.take_add_one, hget, Option.toList_some, stL_snoc, hk]
   have hou : outL done (xs.take (i + 1)) = outL done (xs.take i) ++ [((k + 1 : Nat) : Int)] := by rw [List.take_add_one, hget, Option.toList_some, outL_snoc, hk]
   have htn : doN (allN s (stL done (xs.take i))) (cntS c (k + 1)) = allN s (stL done (xs.take (i + 1))) := by rw [hst]; unfold allN; rw [List.foldl_append]; rfl
   have hdt : done ++ xs.take i ++ [c] = done ++ xs.take (i + 1) := by rw [List.take_add_one, hget, Option.toList_some, List.append_assoc]
   rw [htn] at hin5 ht5
   rw [hdt] at hin5
   have hci5 := hin5 c hxi.1 hxi.2
   rw [← hdt, cntN_snoc, if_pos rfl, hk] at hci5
   have hcn := count_ c (by omega) (k + 1) (by omega) ⟨d, l, n, f, age, n5, f5, ps ++ [(cntS c (k + 1), v)], cage, false, lim⟩ _ hci5 H5 (hE.mono (hle.trans hle5)) ht5
   refine ⟨⟨_, Tryz.func41, rfl, by kernel_rfl⟩, CallS.use hcn [0, 1, 2, 3, 4, 5, 6, 7, 14, 9] rfl rfl ⟨rfl, rfl, rfl, rfl, rfl, rfl, rfl, rfl, rfl, rfl, trivial⟩ ?_⟩
   rintro x H6 G' hle6 ⟨rfl, hle6', rfl⟩
   (conv => whnf)
   have e1 : (((k + 1 : Nat) : Int) != ((k + 1 : Nat) : Int)) = false := by simp
   rw [e1]
   refine ⟨by decide, .inl ?_⟩
   intro g H7 hle7 hrd7
   (conv => whnf)
   refine ⟨[.int .i64 ((k + 1 : Nat) : Int)], rfl, hrd7, fun u hu => by simp at hu; subst hu; rfl, ?_⟩
   (conv => whnf)
   have hol : (outL done (xs.take i)).length = i := by rw [outL_len, List.length_take]; omega
   refine ⟨by show ((outL done (xs.take i)).length + 1) * 9 ≤ 140737488355328; omega, ?_⟩
   (conv => whnf)
   rw [wrap64 (x := (i : Int) + 1) (by omega) (by omega)]
   refine ⟨xs.length - (i + 1), by omega, _, cntG ⟨d, l, n, f, age, n5, f5, ps ++ [(cntS c (k + 1), v)], cage, false, lim⟩ (some ⟨b, o, none⟩) xs.length cp (outL done (xs.take (i + 1))), [0, 1, 2, 3, 4, 5, 6, 7, 8, 9, 10, 11, 14, 15], ⟨i + 1, n5, f5, ps ++ [(cntS c (k + 1), v)], by omega, (ht5.mono (hle6.trans hle7)), hin5, ?_, ?_, ?_, rfl, rfl, ((hle.trans hle5).trans hle6).trans hle7, rfl⟩, ?_⟩
   ·rw [List.map_append, hps4, hst]; rfl
   ·intro q hq
    rcases List.mem_append.1 hq with hq | hq
    ·exact (hok4 q hq).mono (((hle5).trans hle6).trans hle7)
    ·simp at hq; subst hq; exact hv5.mono (hle6.trans hle7)
   ·intro j y hj hy
    by_cases hji : j < i
    ·exact hun j y hji hy
    ·obtain rfl : j = i := by omega
     rw [hget] at hy
     injection hy with hy
     subst hy
     rw [hk]
     exact hlt
   ·refine ⟨rfl, ⟨rfl, rfl, rfl, rfl, rfl, rfl, rfl, rfl, trivial, rfl, rfl, rfl, rfl, ?_, trivial⟩, rfl, rfl, rfl, rfl, rfl, trivial⟩
    rw [hou]
    unfold outRow
    rw [List.length_append, List.map_append]
    exact rfl
  ·obtain ⟨rfl, rfl⟩ := hno hlt
   (conv => whnf)
   refine ⟨⟨n3, f3, ps, outL done (xs.take i), rfl, .inr ⟨14, by decide, ⟨rfl, i, c, hget, by rw [hk]; exact hlt⟩, rfl⟩⟩, hle.trans hle5⟩
 ·have h1 := of_decide_eq_false h1
  obtain rfl : i = xs.length := by omega
  rw [List.take_length] at *
  refine ⟨⟨n3, f3, ps, outL done xs, rfl, .inl ⟨?_, rfl, rfl, ht4, hps4, hok4⟩⟩, hle⟩
  rintro ⟨j, x, hj, hno⟩
  exact hno (hun j x (List.getElem?_eq_some_iff.1 hj).1 hj)
end Go.Kx.Bk
namespace Go.Kx.Bk
open Go.Proofs Go.Kx Go.RowKit Go.Kx.Wl Go.Kx.Dk Go.Kx.Cr Go.Kx.Wa Go.Kx.Kv Go.Kx.Ka Go.Kx.Tu Go.Kx.Rc
set_option maxRecDepth 20000
set_option linter.unusedSimpArgs false
def tryG (p : Pg) (lim : Int) (A : Option Addr) (n c : Nat) (er : Int) (os : List Int) : List SB :=
 [dataB p.d, diskB p.d, logB p.l, recsB p.l, .map .string p.n p.f, storeB p.age, bookB lim, nmB A n c, outB 15, .map .string p.n2 p.f2, .box 171 [.ptr 5 0, .self 9, .self 14, .val (.int .i64 p.cage), .val (.bool p.over)], .dead, .box 105 [.ptr 10 0, .val (.int .i64 p.lim)], erB er, stepsB p.ps, outRow os]
theorem cntCatch (er : Int) (p : Pg) (lim : Int) (A : Option Addr) (n c : Nat) (os : List Int) (H : Hp) :
  CallDO Tryz.prog 96 [.si (.ce (.ptr 13 0))] (.panicking (failE er)) H (tryG p lim A n c 0 os) fun u H' G' => u = .panicking [⟨failV er, true, false⟩] ∧ H' = H ∧ G' = tryG p lim A n c er os := by
 refine CallDO.of_body Ta.tab Tryz.func96 rfl rfl rfl rfl (nt := Tryz.f96.ntmps) rfl (by kernel_rfl) ?_
 (conv => whnf)
 repeat' (first
  | exact trivial
  | exact rfl
  | exact ⟨trivial, trivial, rfl, trivial⟩
  | exact ⟨rfl, rfl, rfl⟩
  | (refine And.intro ?_ ?_ <;> (conv => whnf)))
theorem cntPass (p : Pg) (lim : Int) (A : Option Addr) (n c : Nat) (os : List Int) (H : Hp) :
  CallDO Tryz.prog 96 [.si (.ce (.ptr 13 0))] .returning H (tryG p lim A n c 0 os) fun u H' G' => u = .returning ∧ H' = H ∧ G' = tryG p lim A n c 0 os := by
 refine CallDO.of_body Ta.tab Tryz.func96 rfl rfl rfl rfl (nt := Tryz.f96.ntmps) rfl (by kernel_rfl) ?_
 (conv => whnf)
 try split
 all_goals exact ⟨rfl, rfl, rfl⟩
def tryG0 (d : Dk) (l : Lg) (n : Nat) (f : Value → Option Value) (age : Nat) (lim : Int) (A : Option Addr) (m c : Nat) : List SB :=
 bookG d l n f age lim ++ [nmB A m c, nilB, .map .string n f, .box 171 [.ptr 5 0, .self 9, .self 11, .val (.int .i64 age), .val (.bool false)], stepsB [], .box 105 [.ptr 10 0, .val (.int .i64 lim)]]
def RTry (Ok : Prop) (Bad : Int → Prop) (p : Pg) (lim : Int) (s : TN) (done xs : List ByteArray) (A : Option Addr) (n c : Nat) (x : SE) (H' : Hp) (G' : List SB) : Prop :=
 ∃ n3 f3 ps os er, G' = tryG { p with n2 := n3, f2 := f3, ps := ps } lim A n c er os ∧ x = .ret (pv (.int .i64 er)) ∧
  ((Ok ∧ er = 0 ∧ os = outL done xs ∧ TblM H' f3 n3 (allN s (stL done xs)) ∧ ps.map (·.1) = stL done xs ∧ StsOk H' ps) ∨ (er ≠ 0 ∧ Bad er))
def cFn : SV := .si (.ce (.fn (.func 39) 0 [(7, 0), (8, 0)]))
theorem cntTried (Ok : Prop) (Bad : Int → Prop) (d : Dk) (l : Lg) (n : Nat) (f : Value → Option Value) (age : Nat) (lim : Int) (s : TN) (done xs : List ByteArray) (A : Option Addr) (m c : Nat) (H : Hp)
  (hw : CallO Tryz.prog 39 [gP, .si (.ce (.ptr 10 0)), .si (.ce (.ptr 11 0))] H (pgG ⟨d, l, n, f, age, n, f, [], age, false, lim⟩ ++ [nmB A m c, nilB]) fun x H' G' => RCnt Ok Bad ⟨d, l, n, f, age, n, f, [], age, false, lim⟩ s done xs A m c x H' G' ∧ H.Le H') :
  CallO Tryz.prog 48 [cFn, .si (.ce (.ptr 12 0))] H (tryG0 d l n f age lim A m c) fun x H' G' => RTry Ok Bad ⟨d, l, n, f, age, n, f, [], age, false, lim⟩ lim s done xs A m c x H' G' ∧ H.Le H' := by
 refine CallO.of_bodyD Tc.tab Tryz.func48 rfl (pre := [_]) rfl rfl rfl (nt := Tryz.f48.ntmps) rfl (by kernel_rfl) [4] ?_
 (conv => whnf)
 refine ⟨⟨_, Tryz.func96, rfl, by kernel_rfl⟩, ?_⟩
 (conv => whnf)
 intro ds vs
 (conv => whnf)
 refine ⟨⟨_, Tryz.func39, rfl, by kernel_rfl⟩, CallS.use hw [0, 1, 2, 3, 4, 5, 9, 10, 11, 12, 7, 8] rfl rfl ⟨rfl, rfl, rfl, rfl, rfl, rfl, rfl, rfl, rfl, rfl, rfl, rfl, trivial⟩ ?_⟩
 rintro x H2 G' hle2 ⟨⟨n3, f3, ps, os, rfl, hres⟩, hle2'⟩
 rcases hres with ⟨hok, rfl, hos, ht, hps, hst⟩ | ⟨er, h0, hbad, rfl⟩
 ·(conv => whnf)
  refine Js.CallDS.use (cntPass ⟨d, l, n, f, age, n3, f3, ps, age, false, lim⟩ lim A m c os H2) ?_
  rintro u' H3 G' hle3 ⟨rfl, rfl, rfl⟩
  (conv => whnf)
  exact ⟨⟨n3, f3, ps, os, 0, rfl, rfl, .inl ⟨hok, rfl, hos, ht, hps, hst⟩⟩, hle2⟩
 ·(conv => whnf)
  refine Js.CallDS.use (cntCatch er ⟨d, l, n, f, age, n3, f3, ps, age, false, lim⟩ lim A m c os H2) ?_
  rintro u' H3 G' hle3 ⟨rfl, rfl, rfl⟩
  (conv => whnf)
  exact ⟨⟨n3, f3, ps, os, er, rfl, rfl, .inr ⟨h0, hbad⟩⟩, hle2⟩
def doneG (d : Dk) (l : Lg) (n : Nat) (f : Value → Option Value) (age : Nat) (lim : Int) (A : Option Addr) (m c : Nat) (os : List Int) : List SB :=
 [dataB d, diskB d, logBk 10 l, .dead, .dead, storeBk 11 age, bookB lim, nmB A m c, outB 9, outRow os, recsB l, .map .string n f]
def backG (d : Dk) (l : Lg) (n : Nat) (f : Value → Option Value) (age : Nat) (lim : Int) (A : Option Addr) (m c : Nat) (os : List Int) : List SB := bookG d l n f age lim ++ [nmB A m c, outB 9, outRow os]
def RDo (Ok : Prop) (Bad : Int → Prop) (d : Dk) (l : Lg) (n : Nat) (f : Value → Option Value) (age : Nat) (lim : Int) (s : TN) (done xs : List ByteArray) (A : Option Addr) (m c : Nat) (x : SE) (H' : Hp) (G' : List SB) : Prop :=
 (∃ er os, er ≠ 0 ∧ Bad er ∧ x = .ret (pv (.int .i64 er)) ∧ G' = backG d l n f age lim A m c os) ∨
 (Ok ∧ x = .ret (pv (.int .i64 0)) ∧ xs = [] ∧ G' = backG d l n f age lim A m c []) ∨
 (Ok ∧ x = .ret (pv (.int .i64 0)) ∧ xs ≠ [] ∧ ∃ n3 f3 wr zs, TblM H' f3 n3 (allN s (stL done xs)) ∧
  G' = doneG (Dk.put d (addB d.bs l.half l.gen l.fin (recS (stL done xs))) wr) { l with fin := l.fin + (9 + (recS (stL done xs)).length), nr := l.nr + 1, xs := zs } n3 f3 (age + 1) lim A m c (outL done xs))
theorem stL_nil {done xs : List ByteArray} : stL done xs = [] ↔ xs = [] := by
 constructor
 ·intro h
  have := stL_len xs done
  rw [h] at this
  exact List.eq_nil_of_length_eq_zero this.symm
 ·rintro rfl; rfl
theorem cntDo (Ok : Prop) (Bad : Int → Prop) (d : Dk) (l : Lg) (hd : Fine d) (hl : l.dead = false) (hh : l.half ≤ 1) (hg : l.gen < 4294967296) (hnr : l.nr ≤ 1000000) (n : Nat) (f : Value → Option Value) (age : Nat) (hage : age ≤ 1000000000) (lim : Int) (s : TN) (done xs : List ByteArray) (hxl : xs.length ≤ 60)
  (hr : ∀ p ∈ stL done xs, RightSt p) (h2 : (recS (stL done xs)).length ≤ 65536) (hf : l.fin + (9 + (recS (stL done xs)).length) ≤ d.bs.length / 2) (A : Option Addr) (m c : Nat) (H : Hp)
  (hw : ∀ H2, H.Le H2 → CallO Tryz.prog 39 [gP, .si (.ce (.ptr 10 0)), .si (.ce (.ptr 11 0))] H2 (pgG ⟨d, l, n, f, age, n, f, [], age, false, lim⟩ ++ [nmB A m c, nilB]) fun x H' G' => RCnt Ok Bad ⟨d, l, n, f, age, n, f, [], age, false, lim⟩ s done xs A m c x H' G' ∧ H2.Le H') :
  CallO Tryz.prog 16 [bP, cFn] H (bookG d l n f age lim ++ [nmB A m c, nilB]) fun x H' G' => RDo Ok Bad d l n f age lim s done xs A m c x H' G' ∧ H.Le H' := by
 have h : CallO Tryz.prog 16 [bP, cFn] H (bookG d l n f age lim ++ [nmB A m c, nilB]) fun x H' G' => H.Le H' ∧ ((∃ er n3 f3 ps os, (er ≠ 0 ∧ Bad er) ∧ x = .ret (pv (.int .i64 er)) ∧ G' = tryG ⟨d, l, n, f, age, n3, f3, ps, age, true, lim⟩ lim A m c er os) ∨
   (Ok ∧ x = .ret (pv (.int .i64 0)) ∧ xs = [] ∧ ∃ n3 f3 os, os = [] ∧ G' = tryG ⟨d, l, n, f, age, n3, f3, [], age, true, lim⟩ lim A m c 0 os) ∨
   (Ok ∧ x = .ret (pv (.int .i64 0)) ∧ xs ≠ [] ∧ ∃ n3 f3 wr zs y1 y2 y3 y4, TblM H' f3 n3 (allN s (stL done xs)) ∧
    G' = [dataB (Dk.put d (addB d.bs l.half l.gen l.fin (recS (stL done xs))) wr), diskB (Dk.put d (addB d.bs l.half l.gen l.fin (recS (stL done xs))) wr), logBk 16 { l with fin := l.fin + (9 + (recS (stL done xs)).length), nr := l.nr + 1, xs := zs }, .dead, .map .string n f, storeBk 9 (age + 1), bookB lim, nmB A m c, outB 15, .map .string n3 f3, y1, .dead, y2, y3, y4, outRow (outL done xs), recsB { l with fin := l.fin + (9 + (recS (stL done xs)).length), nr := l.nr + 1, xs := zs }])) := by
  refine CallO.of_body Tc.tab Tryz.func16 rfl (nt := Tryz.f16.ntmps) rfl (by kernel_rfl) ?_
  (conv => whnf)
  refine ⟨⟨_, Tryz.func47, rfl, by kernel_rfl⟩, CallS.use (page_ d l n f age lim H) [0, 1, 2, 3, 4, 5, 6] rfl rfl ⟨rfl, rfl, rfl, rfl, rfl, rfl, rfl, trivial⟩ ?_⟩
  rintro x H2 G' hle2 ⟨rfl, rfl, rfl⟩
  (conv => whnf)
  refine ⟨⟨_, Tryz.func48, rfl, by kernel_rfl⟩, CallS.use (cntTried Ok Bad d l n f age lim s done xs A m c H2 (hw H2 hle2)) [0, 1, 2, 3, 4, 5, 6, 7, 8, 9, 10, 11, 12] rfl rfl ⟨rfl, rfl, rfl, rfl, rfl, rfl, rfl, rfl, rfl, rfl, rfl, rfl, rfl, trivial⟩ ?_⟩
  rintro x H3 G' hle3 ⟨⟨n3, f3, ps, os, er, rfl, rfl, hres⟩, hle3'⟩
  rcases hres with ⟨hok, rfl, rfl, ht, hps, hst⟩ | ⟨h0, hbad⟩
  ·(conv => whnf)
   by_cases hxs : xs = []
   ·subst hxs
    obtain rfl : ps = [] := by cases ps with
     | nil => rfl
     | cons a r => cases hps
    refine ⟨⟨_, Tryz.func50, rfl, by kernel_rfl⟩, CallS.use (commit0 d l n f age n3 f3 H3) [0, 1, 2, 3, 4, 5, 9, 10, 14] rfl rfl ⟨rfl, rfl, rfl, rfl, rfl, rfl, rfl, rfl, rfl, trivial⟩ ?_⟩
    rintro x H4 G' hle4 ⟨rfl, rfl, rfl⟩
    (conv => whnf)
    exact ⟨hle3, .inr (.inl ⟨hok, rfl, rfl, n3, f3, [], rfl, rfl⟩)⟩
   ·have hpl : ps.length = xs.length := by have := congrArg List.length hps; rw [List.length_map, stL_len] at this; exact this
    have hne : ps ≠ [] := by rintro rfl; exact hxs (stL_nil.1 hps.symm)
    have hc := commit_ d l hd hl hh hg hnr n f age n3 f3 ps (by omega) hne (fun q hq => hr q.1 (by rw [← hps]; exact List.mem_map.2 ⟨q, hq, rfl⟩)) (by rw [hps]; exact h2) (by rw [hps]; exact hf) hage H3 hst
    rw [hps] at hc
    refine ⟨⟨_, Tryz.func50, rfl, by kernel_rfl⟩, CallS.use hc [0, 1, 2, 3, 4, 5, 9, 10, 14] rfl rfl ⟨rfl, rfl, rfl, rfl, rfl, rfl, rfl, rfl, rfl, trivial⟩ ?_⟩
    rintro x H4 G' hle4 ⟨rfl, hle4', wr, zs, rfl⟩
    (conv => whnf)
    exact ⟨hle3.trans hle4, .inr (.inr ⟨hok, rfl, hxs, n3, f3, wr, zs, _, _, _, _, ht.mono hle4, rfl⟩)⟩
  ·(conv => whnf)
   have e1 : (er != 0) = true := by simp; exact h0
   rw [e1]
   (conv => whnf)
   refine ⟨⟨_, Tryz.func49, rfl, by kernel_rfl⟩, CallS.use (cancel_ d l n f age n3 f3 ps age false H3) [0, 1, 2, 3, 4, 5, 9, 10, 14] rfl rfl ⟨rfl, rfl, rfl, rfl, rfl, rfl, rfl, rfl, rfl, trivial⟩ ?_⟩
   rintro x H4 G' hle4 ⟨rfl, rfl, rfl⟩
   (conv => whnf)
   exact ⟨hle3, .inl ⟨er, n3, f3, ps, os, ⟨h0, hbad⟩, rfl, rfl⟩⟩
 refine CallO.sub h ?_
 rintro x H' G' hle ⟨hle', ⟨er, n3, f3, ps, os, ⟨h0, hbad⟩, rfl, rfl⟩ | ⟨hok, rfl, rfl, n3, f3, os, rfl, rfl⟩ | ⟨hok, rfl, hxs, n3, f3, wr, zs, y1, y2, y3, y4, ht, rfl⟩⟩
 ·exact ⟨_, backG d l n f age lim A m c os, [0, 1, 2, 3, 4, 5, 6, 7, 8, 15], rfl, ⟨rfl, rfl, rfl, rfl, rfl, rfl, rfl, rfl, rfl, rfl, trivial⟩, rfl, .inl ⟨er, os, h0, hbad, rfl, rfl⟩, hle'⟩
 ·exact ⟨_, backG d l n f age lim A m c [], [0, 1, 2, 3, 4, 5, 6, 7, 8, 15], rfl, ⟨rfl, rfl, rfl, rfl, rfl, rfl, rfl, rfl, rfl, rfl, trivial⟩, rfl, .inr (.inl ⟨hok, rfl, rfl, rfl⟩), hle'⟩
 ·exact ⟨_, doneG _ _ n3 f3 (age + 1) lim A m c (outL done xs), [0, 1, 2, 3, 4, 5, 6, 7, 8, 15, 16, 9], rfl, ⟨rfl, rfl, rfl, trivial, trivial, rfl, rfl, rfl, rfl, rfl, rfl, rfl, trivial⟩, rfl, .inr (.inr ⟨hok, rfl, hxs, n3, f3, wr, zs, ht, rfl⟩), hle'⟩
end Go.Kx.Bk
namespace Go.Kx.Bk
open Go.Proofs Go.Kx Go.RowKit Go.Kx.Wl Go.Kx.Dk Go.Kx.Cr Go.Kx.Wa Go.Kx.Kv Go.Kx.Ka Go.Kx.Tu Go.Kx.Rc
set_option maxRecDepth 20000
set_option linter.unusedSimpArgs false
def donG (d : Dk) (l : Lg) (n : Nat) (f : Value → Option Value) (age : Nat) (lim : Int) (os : List Int) : List SB :=
 [dataB d, diskB d, logBk 8 l, .dead, .dead, storeBk 9 age, bookB lim, outRow os, recsB l, .map .string n f]
def bckG (d : Dk) (l : Lg) (n : Nat) (f : Value → Option Value) (age : Nat) (lim : Int) (os : List Int) : List SB := bookG d l n f age lim ++ [outRow os]
def outV (er : Int) : SE := .ret (.tu [.ce (.self 7), .ce (.val (.int .i64 er))])
def ROut (Ok : Prop) (Bad : Int → Prop) (d : Dk) (l : Lg) (n : Nat) (f : Value → Option Value) (age : Nat) (lim : Int) (s : TN) (done xs : List ByteArray) (x : SE) (H' : Hp) (G' : List SB) : Prop :=
 (∃ er os, er ≠ 0 ∧ Bad er ∧ x = outV er ∧ G' = bckG d l n f age lim os) ∨
 (Ok ∧ x = outV 0 ∧ xs = [] ∧ G' = bckG d l n f age lim []) ∨
 (Ok ∧ x = outV 0 ∧ xs ≠ [] ∧ ∃ n3 f3 wr zs, TblM H' f3 n3 (allN s (stL done xs)) ∧
  G' = donG (Dk.put d (addB d.bs l.half l.gen l.fin (recS (stL done xs))) wr) { l with fin := l.fin + (9 + (recS (stL done xs)).length), nr := l.nr + 1, xs := zs } n3 f3 (age + 1) lim (outL done xs))
theorem cntOut (Ok : Prop) (Bad : Int → Prop) (d : Dk) (l : Lg) (hd : Fine d) (hl : l.dead = false) (hh : l.half ≤ 1) (hg : l.gen < 4294967296) (hnr : l.nr ≤ 1000000) (n : Nat) (f : Value → Option Value) (age : Nat) (hage : age ≤ 1000000000) (lim : Int) (s : TN) (done xs : List ByteArray) (hxl : xs.length ≤ 60)
  (hr : ∀ p ∈ stL done xs, RightSt p) (h2 : (recS (stL done xs)).length ≤ 65536) (hf : l.fin + (9 + (recS (stL done xs)).length) ≤ d.bs.length / 2) (A : Option Addr) (m c : Nat) (H : Hp)
  (hw : ∀ H2, H.Le H2 → CallO Tryz.prog 39 [gP, .si (.ce (.ptr 10 0)), .si (.ce (.ptr 11 0))] H2 (pgG ⟨d, l, n, f, age, n, f, [], age, false, lim⟩ ++ [nmB A m c, nilB]) fun x H' G' => RCnt Ok Bad ⟨d, l, n, f, age, n, f, [], age, false, lim⟩ s done xs A m c x H' G' ∧ H2.Le H') :
  CallO Tryz.prog 9 [bP, pv (.slice A m c)] H (bookG d l n f age lim) fun x H' G' => ROut Ok Bad d l n f age lim s done xs x H' G' ∧ H.Le H' := by
 have hdo := cntDo Ok Bad d l hd hl hh hg hnr n f age hage lim s done xs hxl hr h2 hf A m c H hw
 have h : CallO Tryz.prog 9 [bP, pv (.slice A m c)] H (bookG d l n f age lim) fun x H' G' => H.Le H' ∧ ((∃ er os, er ≠ 0 ∧ Bad er ∧ x = .ret (.tu [.ce (.self 9), .ce (.val (.int .i64 er))]) ∧ G' = backG d l n f age lim A m c os) ∨
   (Ok ∧ x = .ret (.tu [.ce (.self 9), .ce (.val (.int .i64 0))]) ∧ xs = [] ∧ G' = backG d l n f age lim A m c []) ∨
   (Ok ∧ x = .ret (.tu [.ce (.self 9), .ce (.val (.int .i64 0))]) ∧ xs ≠ [] ∧ ∃ n3 f3 wr zs, TblM H' f3 n3 (allN s (stL done xs)) ∧
    G' = doneG (Dk.put d (addB d.bs l.half l.gen l.fin (recS (stL done xs))) wr) { l with fin := l.fin + (9 + (recS (stL done xs)).length), nr := l.nr + 1, xs := zs } n3 f3 (age + 1) lim A m c (outL done xs))) := by
  refine CallO.of_body Tc.tab Tryz.func9 rfl (nt := Tryz.f9.ntmps) rfl (by kernel_rfl) ?_
  (conv => whnf)
  refine ⟨⟨_, Tryz.func16, rfl, by kernel_rfl⟩, CallS.use hdo [0, 1, 2, 3, 4, 5, 6, 7, 8] rfl rfl ⟨rfl, rfl, rfl, rfl, rfl, rfl, rfl, rfl, rfl, trivial⟩ ?_⟩
  rintro x H2 G' hle2 ⟨hres, hle2'⟩
  rcases hres with ⟨er, os, h0, hbad, rfl, rfl⟩ | ⟨hok, rfl, rfl, rfl⟩ | ⟨hok, rfl, hxs, n3, f3, wr, zs, ht, rfl⟩
  ·(conv => whnf)
   exact ⟨hle2, .inl ⟨er, os, h0, hbad, rfl, rfl⟩⟩
  ·(conv => whnf)
   exact ⟨hle2, .inr (.inl ⟨hok, rfl, rfl, rfl⟩)⟩
  ·(conv => whnf)
   exact ⟨hle2, .inr (.inr ⟨hok, rfl, hxs, n3, f3, wr, zs, ht, rfl⟩)⟩
 refine CallO.sub h ?_
 rintro x H' G' hle ⟨hle', ⟨er, os, h0, hbad, rfl, rfl⟩ | ⟨hok, rfl, rfl, rfl⟩ | ⟨hok, rfl, hxs, n3, f3, wr, zs, ht, rfl⟩⟩
 ·exact ⟨.tu [.ce (.self 7), .ce (.val (.int .i64 er))], bckG d l n f age lim os, [0, 1, 2, 3, 4, 5, 6, 9], rfl, ⟨rfl, rfl, rfl, rfl, rfl, rfl, rfl, rfl, trivial⟩, rfl, .inl ⟨er, os, h0, hbad, rfl, rfl⟩, hle'⟩
 ·exact ⟨.tu [.ce (.self 7), .ce (.val (.int .i64 0))], bckG d l n f age lim [], [0, 1, 2, 3, 4, 5, 6, 9], rfl, ⟨rfl, rfl, rfl, rfl, rfl, rfl, rfl, rfl, trivial⟩, rfl, .inr (.inl ⟨hok, rfl, rfl, rfl⟩), hle'⟩
 ·exact ⟨.tu [.ce (.self 7), .ce (.val (.int .i64 0))], donG _ _ n3 f3 (age + 1) lim (outL done xs), [0, 1, 2, 3, 4, 5, 6, 9, 10, 11], rfl, ⟨rfl, rfl, rfl, trivial, trivial, rfl, rfl, rfl, rfl, rfl, trivial⟩, rfl, .inr (.inr ⟨hok, rfl, hxs, n3, f3, wr, zs, ht, rfl⟩), hle'⟩
theorem nextBad (c : ByteArray) (hc : ¬ (1 ≤ c.size ∧ c.size ≤ 40)) (p : Pg) (H : Hp) :
  CallO Tryz.prog 40 [gP, pv (.string c)] H (pgG p) fun x H' G' => x = .pan (failE 10) ∧ H' = H ∧ G' = pgG p := by
 refine CallO.of_body Tb.tab Tryz.func40 rfl (nt := Tryz.f40.ntmps) rfl (by kernel_rfl) ?_
 (conv => whnf)
 by_cases h0 : c = ⟨#[]⟩
 ·subst h0
  (conv => whnf)
  refine ⟨⟨_, Tryz.func81, rfl, by kernel_rfl⟩, CallS.use (must_ false 10 (fun _ => by decide) p H) [0, 1, 2, 3, 4, 5, 6, 7, 8, 9] rfl rfl ⟨rfl, rfl, rfl, rfl, rfl, rfl, rfl, rfl, rfl, rfl, trivial⟩ ?_⟩
  rintro x H2 G' hle2 ⟨rfl, rfl, rfl⟩
  (conv => whnf)
  exact ⟨rfl, rfl, rfl⟩
 ·have hne : strEq c ⟨#[]⟩ = false := strEq_false.2 h0
  have hpos : 1 ≤ c.size := by
   rcases Nat.eq_zero_or_pos c.size with h | h
   ·refine absurd ?_ h0
    have hl : c.data.toList.length = 0 := by rw [Array.length_toList]; exact h
    have := List.eq_nil_of_length_eq_zero hl
    have h3 : c.data = #[] := Array.toList_inj.1 this
    cases c; simpa using h3
   ·exact h
  rw [hne]
  (conv => whnf)
  have e0 : decide ((c.size : Int) ≤ 40) = false := decide_eq_false (by omega)
  rw [e0]
  refine ⟨⟨_, Tryz.func81, rfl, by kernel_rfl⟩, CallS.use (must_ false 10 (fun _ => by decide) p H) [0, 1, 2, 3, 4, 5, 6, 7, 8, 9] rfl rfl ⟨rfl, rfl, rfl, rfl, rfl, rfl, rfl, rfl, rfl, rfl, trivial⟩ ?_⟩
  rintro x H2 G' hle2 ⟨rfl, rfl, rfl⟩
  (conv => whnf)
  exact ⟨rfl, rfl, rfl⟩
theorem countedBad (c : ByteArray) (hc : ¬ (1 ≤ c.size ∧ c.size ≤ 40)) (done : List ByteArray) (A : Option Addr) (cp : Nat) (p : Pg) (hps : p.ps = []) (hov : p.over = false) (s : TN) (H : Hp) (hA : NmsAt H A [c]) :
  CallO Tryz.prog 39 [gP, .si (.ce (.ptr 10 0)), .si (.ce (.ptr 11 0))] H (pgG p ++ [nmB A 1 cp, nilB]) fun x H' G' => RCnt False (fun er => er = 10) p s done [] A 1 cp x H' G' ∧ H.Le H' := by
 obtain ⟨d, l, n, f, age, n2, f2, ps, cage, over, lim⟩ := p
 obtain rfl : ps = [] := hps
 obtain rfl : over = false := hov
 refine CallO.of_body Tc.tab Tryz.func39 rfl (nt := Tryz.f39.ntmps) rfl (by kernel_rfl) ?_
 (conv => whnf)
 refine WS.moveRow 8 7 2 rfl rfl rfl ?_
 (conv => whnf)
 refine WS.nilCell 11 0 3 1 rfl rfl ?_
 (conv => whnf)
 refine WS.loop (fun k' F H4 G => k' = 0 ∧ F = [(0, gP), (2, .si (.ce (.ptr 11 0))), (7, pv (.slice A 1 cp)), (8, iV 1), (9, iV 0)] ∧ H.Le H4 ∧ G = cntG ⟨d, l, n, f, age, n2, f2, [], cage, false, lim⟩ A 1 cp []) 1 ?_ ?_
 ·refine ⟨0, by omega, _, _, [0, 1, 2, 3, 4, 5, 6, 7, 8, 9, 10, 11, 12, 13], ⟨rfl, rfl, .refl _, rfl⟩, ?_⟩
  exact ⟨rfl, ⟨rfl, rfl, rfl, rfl, rfl, rfl, rfl, rfl, trivial, rfl, rfl, rfl, rfl, rfl, trivial⟩, rfl, rfl, rfl, rfl, rfl, trivial⟩
 rintro k' F H4 G hle4 ⟨rfl, rfl, hle, rfl⟩
 refine codeL.go Tc.tab ?_
 (conv => whnf)
 rcases hA with h0 | ⟨b, o, rfl, hrd⟩
 ·cases h0
 refine ⟨⟨by decide, by decide⟩, ⟨_, _, rfl⟩, ?_⟩
 (conv => whnf)
 refine ⟨.string c, ⟨b, o, rfl, ?_⟩, ?_⟩
 ·obtain ⟨_, _, e, hr2⟩ := hrd
  injection e with e; injection e with e1 e2; subst e1 e2
  have := hle _ _ _ (hr2 0 (.string c) rfl)
  simpa using this
 (conv => whnf)
 refine ⟨⟨_, Tryz.func40, rfl, by kernel_rfl⟩, CallS.use (nextBad c hc ⟨d, l, n, f, age, n2, f2, [], cage, false, lim⟩ H4) [0, 1, 2, 3, 4, 5, 6, 7, 12, 9] rfl rfl ⟨rfl, rfl, rfl, rfl, rfl, rfl, rfl, rfl, rfl, rfl, trivial⟩ ?_⟩
 rintro x H5 G' hle5 ⟨rfl, rfl, rfl⟩
 (conv => whnf)
 exact ⟨⟨n2, f2, [], [], rfl, .inr ⟨10, by decide, rfl, rfl⟩⟩, hle⟩
end Go.Kx.Bk
namespace Go.Kx.L17
open Go.Proofs Go.Kx Go.RowKit Go.Kx.Wl Go.Kx.Dk Go.Kx.Cr Go.Kx.Wa Go.Kx.Kv Go.Kx.Ka Go.Kx.Bk
set_option maxRecDepth 20000
set_option linter.unusedSimpArgs false
namespace Tl
def T : Tab := [(5, { k := TK.int IntKind.u8, agg := false, size := 1, bytes := 1, zero := [Z.i IntKind.u8] }), (94, { k := TK.slice 5, agg := false, size := 1, bytes := 24, zero := [Z.sl] }), (9, { k := TK.string, agg := false, size := 1, bytes := 16, zero := [Z.s] }), (4, { k := TK.bool, agg := false, size := 1, bytes := 1, zero := [Z.b] }), (3, { k := TK.int IntKind.i64, agg := false, size := 1, bytes := 8, zero := [Z.i IntKind.i64] }), (29, { k := TK.slice 3, agg := false, size := 1, bytes := 24, zero := [Z.sl] }), (22, { k := TK.slice 9, agg := false, size := 1, bytes := 24, zero := [Z.sl] }), (28, { k := TK.slice 22, agg := false, size := 1, bytes := 24, zero := [Z.sl] }), (91, { k := TK.st [(0, 87, 1), (1, 3, 1)], agg := true, size := 2, bytes := 16, zero := [Z.p, Z.i IntKind.i64] }), (96, { k := TK.st [(0, 94, 1), (1, 4, 1), (2, 4, 1), (3, 93, 2), (5, 3, 1)], agg := true, size := 6, bytes := 56, zero := [Z.sl, Z.b, Z.b, Z.i IntKind.i64, Z.i IntKind.i64, Z.i IntKind.i64] }), (24, { k := TK.ptr 91, agg := false, size := 1, bytes := 8, zero := [Z.p] }), (25, { k := TK.ptr 96, agg := false, size := 1, bytes := 8, zero := [Z.p] }), (30, { k := TK.int IntKind.i64, agg := false, size := 1, bytes := 8, zero := [Z.i IntKind.i64] }), (56, { k := TK.func, agg := false, size := 1, bytes := 8, zero := [Z.fn] }), (87, { k := TK.ptr 158, agg := false, size := 1, bytes := 8, zero := [Z.p] }), (47, { k := TK.ptr 105, agg := false, size := 1, bytes := 8, zero := [Z.p] }), (105, { k := TK.st [(0, 103, 1), (1, 3, 1)], agg := true, size := 2, bytes := 16, zero := [Z.p, Z.i IntKind.i64] }), (103, { k := TK.ptr 171, agg := false, size := 1, bytes := 8, zero := [Z.p] }), (52, { k := TK.st [(0, 9, 1), (1, 9, 1), (2, 4, 1), (3, 3, 1)], agg := true, size := 4, bytes := 48, zero := [Z.s, Z.s, Z.b, Z.i IntKind.i64] }), (93, { k := TK.st [(0, 3, 1), (1, 3, 1)], agg := true, size := 2, bytes := 16, zero := [Z.i IntKind.i64, Z.i IntKind.i64] }), (158, { k := TK.st [(0, 152, 1), (1, 156, 1), (2, 3, 1)], agg := true, size := 3, bytes := 24, zero := [Z.p, Z.m, Z.i IntKind.i64] }), (171, { k := TK.st [(0, 87, 1), (1, 156, 1), (2, 161, 1), (3, 3, 1), (4, 4, 1)], agg := true, size := 5, bytes := 56, zero := [Z.p, Z.m, Z.sl, Z.i IntKind.i64, Z.b] }), (152, { k := TK.ptr 216, agg := false, size := 1, bytes := 8, zero := [Z.p] }), (156, { k := TK.map 9 94, agg := false, size := 1, bytes := 8, zero := [Z.m] }), (161, { k := TK.slice 213, agg := false, size := 1, bytes := 24, zero := [Z.sl] }), (216, { k := TK.st [(0, 25, 1), (1, 3, 1), (2, 3, 1), (3, 3, 1), (4, 159, 1), (5, 4, 1)], agg := true, size := 6, bytes := 64, zero := [Z.p, Z.i IntKind.i64, Z.i IntKind.i64, Z.i IntKind.i64, Z.sl, Z.b] }), (213, { k := TK.st [(0, 5, 1), (1, 9, 1), (2, 94, 1)], agg := true, size := 3, bytes := 48, zero := [Z.i IntKind.u8, Z.s, Z.sl] }), (159, { k := TK.slice 94, agg := false, size := 1, bytes := 24, zero := [Z.sl] })]
set_option maxRecDepth 100000 in
theorem tab : TabOk Tryz.prog T := tabOk_mk (ts := [5, 94, 9, 4, 3, 29, 22, 28, 91, 96, 24, 25, 30, 56, 87, 47, 105, 103, 52, 93, 158, 171, 152, 156, 161, 216, 213, 159]) (by kernel_rfl)
theorem mixed : Tryz.prog.follows .mixedOrders = true := by kernel_rfl
end Tl
theorem opened_ (n : Nat) (h1 : 1024 ≤ n) (h2 : n ≤ 1048576) (lim : Int) (hl : 1 ≤ lim) (hl2 : lim ≤ 1099511627776) (H : Hp) :
  CallO Tryz.prog 8 [pv (.int .i64 n), pv (.int .i64 lim)] H [] fun e H' G' => e = .ret (.tu [.ce (.ptr 6 0), .ce (.ptr 1 0)]) ∧ H.Le H' ∧ ∃ wr nr xs m f, TblM H' f m (tnOf []) ∧ nr = 0 ∧ G' = bookG (Dk.put (dk0 n) (freshB n) wr) (lgOf 0 1 [] nr xs) m f 0 lim := by
 have hb := fun H => bopen_ (dk0 n) ⟨rfl, rfl, by show 1024 ≤ (List.replicate n (0 : UInt8)).length; rw [List.length_replicate]; exact h1, by show (List.replicate n (0 : UInt8)).length ≤ _; rw [List.length_replicate]; exact h2⟩ (freshB n) 0 1 [] open_new (fun l hl => by simp at hl) (by show 16 + 0 < (List.replicate n (0 : UInt8)).length / 2; rw [List.length_replicate]; omega) lim hl hl2 H
 refine CallO.of_body Tl.tab Tryz.func8 rfl (nt := Tryz.f8.ntmps) rfl (by kernel_rfl) ?_
 (conv => whnf)
 refine ⟨⟨_, Tryz.func38, rfl, by kernel_rfl⟩, CallS.use (new_ n h1 h2 H) [] rfl rfl trivial ?_⟩
 rintro e H2 G' hle2 ⟨rfl, rfl, rfl⟩
 (conv => whnf)
 refine ⟨⟨_, Tryz.func10, rfl, by kernel_rfl⟩, CallS.use (hb H2) [0, 1] rfl rfl ⟨rfl, rfl, trivial⟩ ?_⟩
 rintro e H3 G' hle3 ⟨⟨rfl, wr, nr, xs, m, f, ht, hnr, rfl⟩, hle3'⟩
 (conv => whnf)
 exact ⟨rfl, hle3, wr, nr, xs, m, f, ht, hnr, rfl⟩
theorem anchor_ (H : Hp) : CallO Tryz.prog 7 [] H [] fun e H' G' => e = .ret (pv (.bool true)) ∧ H.Le H' ∧ G' = [] := by
 refine CallO.of_body Tl.tab Tryz.func7 rfl (nt := Tryz.f7.ntmps) rfl (by kernel_rfl) ?_
 (conv => whnf)
 refine ⟨⟨_, Tryz.func8, rfl, by kernel_rfl⟩, CallS.use (opened_ 4096 (by decide) (by decide) 9 (by decide) (by decide) H) [] rfl rfl trivial ?_⟩
 rintro e H2 G' hle2 ⟨rfl, hle2', wr, nr, xs, m, f, ht, rfl, rfl⟩
 (conv => whnf)
 refine ⟨⟨_, Tryz.func16, rfl, by kernel_rfl⟩, CallS.use (annDo _ _ m f 0 9 _ H2 ht) [0, 1, 2, 3, 4, 5, 6] rfl rfl ⟨rfl, rfl, rfl, rfl, rfl, rfl, rfl, trivial⟩ ?_⟩
 rintro e H3 G' hle3 ⟨rfl, hle3', rfl⟩
 (conv => whnf)
 obtain rfl : m = 0 := ht.num.trans rfl
 refine ⟨⟨_, Tryz.func34, rfl, by kernel_rfl⟩, CallS.use (blen_ _ _ 0 f 0 9 H3) [0, 1, 2, 3, 4, 5, 6] rfl rfl ⟨rfl, rfl, rfl, rfl, rfl, rfl, rfl, trivial⟩ ?_⟩
 rintro e H4 G' hle4 ⟨rfl, rfl, rfl⟩
 (conv => whnf)
 exact ⟨rfl, hle2.trans hle3, rfl⟩
end Go.Kx.L17
