/- Values as texts: the pure reading of a text, and how a value lies in memory. No condition of its own. -/
import Derived.Test.YtdknmcaemebgfaaGreatDoorMY06
namespace Go.Kx.Js
open Go.Kx Go.RowKit

inductive J
 | mk (kind : Int) (yes : Bool) (text : ByteArray) (list : List J) (mems : List (ByteArray × J))
abbrev Ms := List (ByteArray × J)
def J.kind : J → Int | .mk k _ _ _ _ => k
def J.yes : J → Bool | .mk _ y _ _ _ => y
def J.text : J → ByteArray | .mk _ _ t _ _ => t
def J.list : J → List J | .mk _ _ _ l _ => l
def J.mems : J → Ms | .mk _ _ _ _ m => m
def jNull : J := .mk 1 false ⟨#[]⟩ [] []
def jTruth (b : Bool) : J := .mk 2 b ⟨#[]⟩ [] []
def jNum (t : ByteArray) : J := .mk 3 false t [] []
def jStr (t : ByteArray) : J := .mk 4 false t [] []
def jArr (l : List J) : J := .mk 5 false ⟨#[]⟩ l []
def jObj (m : Ms) : J := .mk 6 false ⟨#[]⟩ [] m
def jNone : J := .mk 0 false ⟨#[]⟩ [] []

def RdV (H : Hp) (A : Option Addr) (xs : List Value) : Prop := (A = none → xs = []) ∧ ∀ a, A = some a → RdN H (some a) 0 xs
theorem RdV.mono {H H' : Hp} (h : H.Le H') {A : Option Addr} {xs : List Value} (hb : RdV H A xs) : RdV H' A xs := ⟨hb.1, fun a e => (hb.2 a e).mono h⟩
theorem RdV.of_frozen {H : Hp} {x : Value} {n : Nat} {vs : List Value} (h : Frozen H x n vs) : ∃ A cap, x = .slice A n cap ∧ RdV H A vs := by
 rcases h with ⟨rfl, h1, h2⟩ | ⟨g, o, cap, rfl, _, h2⟩
 ·subst h1
  exact ⟨none, 0, rfl, fun _ => h2, fun _ e => (nomatch e)⟩
 ·exact ⟨_, cap, rfl, fun e => (nomatch e), fun a e => by injection e with e; subst e; exact h2⟩
theorem RdV.nil (H : Hp) : RdV H none [] := ⟨fun _ => rfl, fun _ e => (nomatch e)⟩

mutual
inductive JAt (H : Hp) : J → List Value → Prop
 | mk {k : Int} {y : Bool} {t : ByteArray} {js : List J} {ms : Ms} {A : Option Addr} {n c : Nat} {B : Option Addr} {m d : Nat} {xs zs : List Value} :
  n = js.length → JsAt H js xs → RdV H A xs → m = ms.length → MsAt H ms zs → RdV H B zs → JAt H (.mk k y t js ms) [.int .i64 k, .bool y, .string t, .slice A n c, .slice B m d]
inductive JsAt (H : Hp) : List J → List Value → Prop
 | nil : JsAt H [] []
 | cons {j : J} {cs : List Value} {js : List J} {xs : List Value} : JAt H j cs → JsAt H js xs → JsAt H (j :: js) (cs ++ xs)
inductive MsAt (H : Hp) : Ms → List Value → Prop
 | nil : MsAt H [] []
 | cons {s : ByteArray} {j : J} {cs : List Value} {ms : Ms} {xs : List Value} : JAt H j cs → MsAt H ms xs → MsAt H ((s, j) :: ms) (.string s :: cs ++ xs)
end
mutual
theorem JAt.mono {H H' : Hp} (h : H.Le H') {j : J} {cs : List Value} : JAt H j cs → JAt H' j cs
 | .mk h1 h2 h3 h4 h5 h6 => .mk h1 (h2.mono h) (h3.mono h) h4 (h5.mono h) (h6.mono h)
theorem JsAt.mono {H H' : Hp} (h : H.Le H') {j : List J} {cs : List Value} : JsAt H j cs → JsAt H' j cs
 | .nil => .nil
 | .cons h1 h2 => .cons (h1.mono h) (h2.mono h)
theorem MsAt.mono {H H' : Hp} (h : H.Le H') {j : Ms} {cs : List Value} : MsAt H j cs → MsAt H' j cs
 | .nil => .nil
 | .cons h1 h2 => .cons (h1.mono h) (h2.mono h)
end
theorem JAt.length {H : Hp} {j : J} {cs : List Value} (h : JAt H j cs) : cs.length = 5 := by cases h; rfl
theorem JsAt.length {H : Hp} : ∀ {js : List J} {xs : List Value}, JsAt H js xs → xs.length = js.length * 5
 | _, _, .nil => rfl
 | _, _, .cons h1 h2 => by rw [List.length_append, h1.length, h2.length, List.length_cons]; omega
theorem MsAt.length {H : Hp} : ∀ {js : Ms} {xs : List Value}, MsAt H js xs → xs.length = js.length * 6
 | _, _, .nil => rfl
 | _, _, .cons h1 h2 => by rw [List.length_append, List.length_cons, h1.length, h2.length, List.length_cons]; omega
theorem JsAt.snoc {H : Hp} : ∀ {js : List J} {xs : List Value} {j : J} {cs : List Value}, JsAt H js xs → JAt H j cs → JsAt H (js ++ [j]) (xs ++ cs)
 | _, _, j, cs, .nil, h => by have := JsAt.cons h .nil; rwa [List.append_nil] at this
 | _, _, j, cs, .cons h1 h2, h => by rw [List.append_assoc]; exact .cons h1 (JsAt.snoc h2 h)
theorem MsAt.snoc {H : Hp} : ∀ {js : Ms} {xs : List Value} {s : ByteArray} {j : J} {cs : List Value}, MsAt H js xs → JAt H j cs → MsAt H (js ++ [(s, j)]) (xs ++ .string s :: cs)
 | _, _, s, j, cs, .nil, h => by have := MsAt.cons (s := s) h .nil; rwa [List.append_nil] at this
 | _, _, s, j, cs, .cons h1 h2, h => by rw [List.append_assoc]; exact .cons h1 (MsAt.snoc h2 h)
theorem JAt.bare {H : Hp} (k : Int) (y : Bool) (t : ByteArray) : JAt H (.mk k y t [] []) [.int .i64 k, .bool y, .string t, .slice none 0 0, .slice none 0 0] :=
 .mk rfl .nil (.nil H) rfl .nil (.nil H)
theorem MsAt.get {H : Hp} : ∀ {ms : Ms} {xs : List Value}, MsAt H ms xs → ∀ {i : Nat} {s : ByteArray} {j : J}, ms[i]? = some (s, j) → ∃ cs, JAt H j cs ∧ (xs.drop (i * 6)).take 6 = .string s :: cs
 | _, _, .nil, i, s, j, h => by simp at h
 | _, _, .cons (s := s0) (cs := cs) (xs := xs) h1 h2, i, s, j, h => by
  have hl := h1.length
  cases i with
  | zero =>
   simp at h
   obtain ⟨rfl, rfl⟩ := h
   refine ⟨cs, h1, ?_⟩
   rw [Nat.zero_mul, List.drop_zero, List.take_append_of_le_length (by simp [hl]), List.take_of_length_le (by simp [hl])]
  | succ i =>
   obtain ⟨cs', h3, h4⟩ := MsAt.get h2 (i := i) (by simpa using h)
   refine ⟨cs', h3, ?_⟩
   rw [show (i + 1) * 6 = (Value.string s0 :: cs).length + i * 6 by simp [hl]; omega, ← List.drop_drop, List.drop_left]
   exact h4
theorem JsAt.get {H : Hp} : ∀ {js : List J} {xs : List Value}, JsAt H js xs → ∀ {i : Nat} {j : J}, js[i]? = some j → ∃ cs, JAt H j cs ∧ (xs.drop (i * 5)).take 5 = cs
 | _, _, .nil, i, j, h => by simp at h
 | _, _, .cons (cs := cs) (xs := xs) h1 h2, i, j, h => by
  have hl := h1.length
  cases i with
  | zero =>
   simp at h
   subst h
   refine ⟨cs, h1, ?_⟩
   rw [Nat.zero_mul, List.drop_zero, List.take_append_of_le_length (by omega), List.take_of_length_le (by omega)]
  | succ i =>
   obtain ⟨cs', h3, h4⟩ := JsAt.get h2 (i := i) (by simpa using h)
   refine ⟨cs', h3, ?_⟩
   rw [show (i + 1) * 5 = cs.length + i * 5 by rw [hl]; omega, ← List.drop_drop, List.drop_left]
   exact h4

theorem cells_at {xs ys : List Value} {a m : Nat} (h : (xs.drop a).take m = ys) {off : Nat} (ho : off = a) : ∀ (j : Nat) (x : Value), ys[j]? = some x → xs[off + j]? = some x := by
 intro j x hx
 rw [← h, List.getElem?_take] at hx
 split at hx
 ·rw [List.getElem?_drop] at hx; rw [ho]; exact hx
 ·cases hx
theorem JAt.cells {H : Hp} {j : J} {cs : List Value} (h : JAt H j cs) : ∃ A n c B m d, cs = [.int .i64 j.kind, .bool j.yes, .string j.text, .slice A n c, .slice B m d] := by
 cases h with | mk => exact ⟨_, _, _, _, _, _, rfl⟩

inductive Res (α : Type)
 | ok (x : α) (r : List UInt8)
 | no (e : Nat) (r : List UInt8)
def Res.bind {α β : Type} (a : Res α) (f : α → List UInt8 → Res β) : Res β :=
 match a with
 | .ok x r => f x r
 | .no e r => .no e r
def pk : List UInt8 → UInt8
 | [] => 0
 | c :: _ => c
def tk (c : UInt8) : List UInt8 → Option (List UInt8)
 | [] => none
 | x :: r => if x = c then some r else none
def mustP (c : UInt8) (l : List UInt8) : Res Unit :=
 match tk c l with
 | some r => .ok () r
 | none => .no 31 l
def isBlank (c : UInt8) : Bool := c == 32 || c == 9 || c == 10 || c == 13
def blankP : List UInt8 → List UInt8
 | [] => []
 | c :: r => if isBlank c then blankP r else c :: r
def wordP : List UInt8 → List UInt8 → Res Unit
 | [], l => .ok () l
 | c :: w, l => (mustP c l).bind fun _ r => wordP w r
def isDig (c : UInt8) : Bool := decide (48 ≤ c.toNat) && decide (c.toNat ≤ 57)
def digsP : List UInt8 → List UInt8
 | [] => []
 | c :: r => if isDig c then digsP r else c :: r
def digitsP (l : List UInt8) : Res Unit := if isDig (pk l) then .ok () (digsP l) else .no 31 l
def optP (c : UInt8) (l : List UInt8) : List UInt8 := (tk c l).getD l
def tkB (c : UInt8) (l : List UInt8) : Bool := (tk c l).isSome
def num1 (l : List UInt8) : Res Unit := if tkB 48 l then .ok () (optP 48 l) else digitsP (optP 48 l)
def num2 (l : List UInt8) : Res Unit := if tkB 46 l then digitsP (optP 46 l) else .ok () (optP 46 l)
def num4 (l : List UInt8) : Res Unit := if tkB 43 l then digitsP (optP 43 l) else digitsP (optP 45 (optP 43 l))
def num3 (l : List UInt8) : Res Unit := if tkB 101 l then num4 (optP 101 l) else if tkB 69 (optP 101 l) then num4 (optP 69 (optP 101 l)) else .ok () (optP 69 (optP 101 l))
def numberP (l : List UInt8) : Res ByteArray :=
 (num1 (optP 45 l)).bind fun _ l2 => (num2 l2).bind fun _ l3 => (num3 l3).bind fun _ l4 => .ok ⟨(l.take (l.length - l4.length)).toArray⟩ l4
def hexD (c : UInt8) : Option Nat :=
 if 48 ≤ c.toNat ∧ c.toNat ≤ 57 then some (c.toNat - 48) else if 97 ≤ c.toNat ∧ c.toNat ≤ 102 then some (c.toNat - 87) else if 65 ≤ c.toNat ∧ c.toNat ≤ 70 then some (c.toNat - 55) else none
def hexP : Nat → Nat → List UInt8 → Res Nat
 | 0, n, l => .ok n l
 | k + 1, n, l => match hexD (pk l) with
  | some d => hexP k (n * 16 + d) l.tail
  | none => .no 31 l
def behindU (l : List UInt8) : Option (List UInt8) :=
 match tk 92 l with
 | none => none
 | some l2 => tk 117 l2
def unitP (fr l : List UInt8) : Res Nat := (hexP 4 0 l).bind fun a l1 =>
 if a < 55296 ∨ 57344 ≤ a then .ok a l1 else
 if 56320 ≤ a then .no 31 fr else
 match behindU l1 with
 | none => .no 31 fr
 | some l3 => (hexP 4 0 l3).bind fun b l4 => if b < 56320 ∨ 57344 ≤ b then .no 31 fr else .ok (65536 + (a - 55296) * 1024 + (b - 56320)) l4
def by1 (y : Int) : UInt8 := UInt8.ofNat (IntKind.u8.wrap y).toNat
theorem by1_eq (y : Int) : IntKind.u8.wrap y = ((by1 y).toNat : Int) := by
 have h : IntKind.u8.wrap y = y % 256 := by simp [IntKind.wrap, IntKind.bits, IntKind.signed]
 unfold by1
 rw [h, UInt8.toNat_ofNat']
 omega
def or8 (a b : Int) : Int := ((BitVec.ofInt IntKind.u8.bits a ||| BitVec.ofInt IntKind.u8.bits b).toNat : Int)
def and8 (a b : Int) : Int := ((BitVec.ofInt IntKind.u8.bits a &&& BitVec.ofInt IntKind.u8.bits b).toNat : Int)
def sh32 (x y : Int) : Int := IntKind.u8.wrap (x.fdiv (2 ^ min (Int.toNat y) IntKind.i32.bits))
def runeB (x : Int) : List UInt8 :=
 if x ≤ 127 then [by1 x] else
 if x ≤ 2047 then [by1 (or8 192 (sh32 x 6)), by1 (or8 128 (IntKind.u8.wrap (and8 (IntKind.u8.wrap x) 63)))] else
 if x ≤ 65535 then [by1 (or8 224 (sh32 x 12)), by1 (or8 128 (IntKind.u8.wrap (and8 (sh32 x 6) 63))), by1 (or8 128 (IntKind.u8.wrap (and8 (IntKind.u8.wrap x) 63)))] else
 [by1 (or8 240 (sh32 x 18)), by1 (or8 128 (IntKind.u8.wrap (and8 (sh32 x 12) 63))), by1 (or8 128 (IntKind.u8.wrap (and8 (sh32 x 6) 63))), by1 (or8 128 (IntKind.u8.wrap (and8 (IntKind.u8.wrap x) 63)))]
def shortB (c : UInt8) : Option UInt8 :=
 if c = 98 then some 8 else if c = 102 then some 12 else if c = 110 then some 10 else if c = 114 then some 13 else if c = 116 then some 9 else if c = 34 then some 34 else if c = 92 then some 92 else none
def escP (fr l : List UInt8) : Res (List UInt8) :=
 match shortB (pk l) with
 | some b => .ok [b] l.tail
 | none => match tk 47 l with
  | some r => .ok [47] r
  | none => match tk 117 l with
   | some r => (unitP fr r).bind fun n r2 => .ok (runeB (n : Int)) r2
   | none => .no 31 l
def strP : Nat → List UInt8 → List UInt8 → Res (List UInt8)
 | 0, _, l => .no 0 l
 | k + 1, b, l => match tk 34 l with
  | some r => .ok b r
  | none => match tk 92 l with
   | some r => (escP l r).bind fun x r2 => strP k (b ++ x) r2
   | none => if (pk l).toNat < 32 then .no 31 l else strP k (b ++ [pk l]) l.tail
def textP (l : List UInt8) : Res ByteArray := (mustP 34 l).bind fun _ r => (strP (r.length + 1) [] r).bind fun b r2 => .ok ⟨b.toArray⟩ r2
def rowP {α : Type} (one : α → List UInt8 → Res α) (en : UInt8) : Nat → Bool → α → List UInt8 → Res α
 | 0, _, _, l => .no 0 l
 | k + 1, first, x, l => match (if first then tk en l else none) with
  | some r => .ok x r
  | none => (one x l).bind fun y l1 => match tk en (blankP l1) with
   | some r => .ok y r
   | none => (mustP 44 (blankP l1)).bind fun _ l3 => rowP one en k false y (blankP l3)
def getP (ms : Ms) (s : ByteArray) : Option J :=
 match ms with
 | [] => none
 | (t, j) :: r => if t = s then some j else getP r s
def memP (val : List UInt8 → Res J) (ms : Ms) (l : List UInt8) : Res Ms :=
 (textP l).bind fun s l1 => match getP ms s with
  | some _ => .no 15 l
  | none => (mustP 58 (blankP l1)).bind fun _ l2 => (val (blankP l2)).bind fun j l3 => .ok (ms ++ [(s, j)]) l3
def elP (val : List UInt8 → Res J) (js : List J) (l : List UInt8) : Res (List J) := (val l).bind fun j r => .ok (js ++ [j]) r
def enterP (c : UInt8) (l : List UInt8) : Res Unit := (mustP c l).bind fun _ r => .ok () (blankP r)
def valS (deeper : Option (List UInt8 → Res J)) (l : List UInt8) : Res J :=
 let c := (pk l).toNat
 if c = 110 then (wordP [110, 117, 108, 108] l).bind fun _ r => .ok jNull r else
 if c = 116 then (wordP [116, 114, 117, 101] l).bind fun _ r => .ok (jTruth true) r else
 if c = 102 then (wordP [102, 97, 108, 115, 101] l).bind fun _ r => .ok (jTruth false) r else
 if c = 34 then (textP l).bind fun s r => .ok (jStr s) r else
 if c = 91 then match deeper with
  | none => .no 32 l
  | some val => (enterP 91 l).bind fun _ r => (rowP (elP val) 93 (r.length + 1) true [] r).bind fun js r2 => .ok (jArr js) r2
 else
 if c = 123 then match deeper with
  | none => .no 32 l
  | some val => (enterP 123 l).bind fun _ r => (rowP (memP val) 125 (r.length + 1) true [] r).bind fun ms r2 => .ok (jObj ms) r2
 else
 if c = 45 ∨ isDig (pk l) then (numberP l).bind fun s r => .ok (jNum s) r else .no 31 l
def valP : Nat → List UInt8 → Res J
 | 0 => valS none
 | d + 1 => valS (some (valP d))
def wholeP (d : Nat) (l : List UInt8) : Res J := (valP d (blankP l)).bind fun j r => match blankP r with
 | [] => .ok j []
 | c :: r2 => .no 31 (c :: r2)

def Sfx (r l : List UInt8) : Prop := ∃ p, l = p ++ r
theorem Sfx.refl (l : List UInt8) : Sfx l l := ⟨[], rfl⟩
theorem Sfx.trans {a b c : List UInt8} (h : Sfx a b) (h' : Sfx b c) : Sfx a c := by
 obtain ⟨p, rfl⟩ := h; obtain ⟨q, rfl⟩ := h'; exact ⟨q ++ p, by rw [List.append_assoc]⟩
theorem Sfx.tail {c : UInt8} {r l : List UInt8} (h : Sfx (c :: r) l) : Sfx r l := by obtain ⟨p, rfl⟩ := h; exact ⟨p ++ [c], by simp⟩
theorem Sfx.le {r l : List UInt8} (h : Sfx r l) : r.length ≤ l.length := by obtain ⟨p, rfl⟩ := h; simp
theorem Sfx.drop {r l : List UInt8} (h : Sfx r l) : l.drop (l.length - r.length) = r := by
 obtain ⟨p, rfl⟩ := h
 rw [List.length_append, Nat.add_sub_cancel, List.drop_left]
theorem blankP_sfx : ∀ l : List UInt8, Sfx (blankP l) l
 | [] => .refl _
 | c :: r => by
  unfold blankP
  split
  ·exact (blankP_sfx r).trans ⟨[c], rfl⟩
  ·exact .refl _
theorem digsP_sfx : ∀ l : List UInt8, Sfx (digsP l) l
 | [] => .refl _
 | c :: r => by
  unfold digsP
  split
  ·exact (digsP_sfx r).trans ⟨[c], rfl⟩
  ·exact .refl _
theorem tk_some {c : UInt8} {l r : List UInt8} (h : tk c l = some r) : l = c :: r := by
 cases l with
 | nil => cases h
 | cons x l =>
  simp only [tk] at h
  by_cases hx : x = c
  ·rw [if_pos hx] at h; subst hx; injection h with h; rw [h]
  ·rw [if_neg hx] at h; cases h
theorem tk_sfx {c : UInt8} {l r : List UInt8} (h : tk c l = some r) : Sfx r l := ⟨[c], tk_some h⟩
end Go.Kx.Js
namespace Go.Kx.Js
open Go.Proofs Go.Kx Go.RowKit
set_option maxRecDepth 20000
def T : Tab := [(131, { k := TK.st [(0, 9, 1), (1, 3, 1), (2, 3, 1), (3, 3, 1)], agg := true, size := 4, bytes := 40, zero := [Z.s, Z.i IntKind.i64, Z.i IntKind.i64, Z.i IntKind.i64] }), (34, { k := TK.st [(0, 3, 1), (1, 4, 1), (2, 9, 1), (3, 31, 1), (4, 32, 1)], agg := true, size := 5, bytes := 80, zero := [Z.i IntKind.i64, Z.b, Z.s, Z.sl, Z.sl] }), (52, { k := TK.st [(0, 9, 1), (1, 34, 5)], agg := true, size := 6, bytes := 96, zero := [Z.s, Z.i IntKind.i64, Z.b, Z.s, Z.sl, Z.sl] }), (133, { k := TK.st [(0, 35, 1), (1, 3, 1)], agg := true, size := 2, bytes := 16, zero := [Z.i IntKind.i64, Z.i IntKind.i64] }), (9, { k := TK.string, agg := false, size := 1, bytes := 16, zero := [Z.s] }), (4, { k := TK.bool, agg := false, size := 1, bytes := 1, zero := [Z.b] }), (3, { k := TK.int IntKind.i64, agg := false, size := 1, bytes := 8, zero := [Z.i IntKind.i64] }), (32, { k := TK.slice 52, agg := false, size := 1, bytes := 24, zero := [Z.sl] }), (55, { k := TK.slice 5, agg := false, size := 1, bytes := 24, zero := [Z.sl] }), (35, { k := TK.int IntKind.i64, agg := false, size := 1, bytes := 8, zero := [Z.i IntKind.i64] }), (129, { k := TK.ptr 131, agg := false, size := 1, bytes := 8, zero := [Z.p] }), (69, { k := TK.func, agg := false, size := 1, bytes := 8, zero := [Z.fn] }), (1, { k := TK.func, agg := false, size := 1, bytes := 8, zero := [Z.fn] }), (5, { k := TK.int IntKind.u8, agg := false, size := 1, bytes := 1, zero := [Z.i IntKind.u8] }), (201, { k := TK.slice 205, agg := false, size := 1, bytes := 24, zero := [Z.sl] }), (205, { k := TK.st [(0, 5, 1), (1, 5, 1)], agg := true, size := 2, bytes := 2, zero := [Z.i IntKind.u8, Z.i IntKind.u8] }), (20, { k := TK.ifc, agg := false, size := 1, bytes := 16, zero := [Z.ifc] }), (21, { k := TK.int IntKind.i32, agg := false, size := 1, bytes := 4, zero := [Z.i IntKind.i32] }), (189, { k := TK.int IntKind.u32, agg := false, size := 1, bytes := 4, zero := [Z.i IntKind.u32] }), (31, { k := TK.slice 34, agg := false, size := 1, bytes := 24, zero := [Z.sl] }), (244, { k := TK.ptr 34, agg := false, size := 1, bytes := 8, zero := [Z.p] })]
set_option maxRecDepth 100000 in
theorem tab : TabOk Tryz.prog T := tabOk_mk (ts := [131, 34, 52, 133, 9, 4, 3, 32, 55, 35, 129, 69, 1, 5, 201, 205, 20, 21, 189, 31, 244]) (by kernel_rfl)
theorem mixed : Tryz.prog.follows .mixedOrders = true := by kernel_rfl

def tL (s : ByteArray) : List UInt8 := s.data.toList
theorem size_eq (s : ByteArray) : s.size = (tL s).length := by show s.data.size = s.data.toList.length; rw [Array.length_toList]
def pos (s : ByteArray) (l : List UInt8) : Nat := (tL s).length - l.length
theorem pos_le (s : ByteArray) (l : List UInt8) : pos s l ≤ s.size := by rw [size_eq]; unfold pos; omega
theorem pos_nil (s : ByteArray) : pos s [] = s.size := by rw [size_eq]; rfl
theorem pos_lt {s : ByteArray} {c : UInt8} {r : List UInt8} (h : Sfx (c :: r) (tL s)) : pos s (c :: r) < s.size := by
 have := h.le
 rw [size_eq]; unfold pos
 rw [List.length_cons] at *
 omega
theorem pos_tail {s : ByteArray} {c : UInt8} {r : List UInt8} (h : Sfx (c :: r) (tL s)) : pos s r = pos s (c :: r) + 1 := by
 have := h.le
 unfold pos
 rw [List.length_cons] at *
 omega
theorem byte_pos {s : ByteArray} {c : UInt8} {r : List UInt8} (h : Sfx (c :: r) (tL s)) : byteAt s ((pos s (c :: r) : Nat) : Int) = (c.toNat : Int) := by
 have h2 := h.drop
 have h3 : (tL s)[pos s (c :: r)]? = some c := by
  have := congrArg (fun l => l[0]?) h2
  simp only [List.getElem?_drop, Nat.add_zero, List.getElem?_cons_zero] at this
  exact this
 unfold byteAt
 rw [Int.toNat_natCast, List.getD_eq_getElem?_getD]
 show (((tL s)[pos s (c :: r)]?.getD 0).toNat : Int) = _
 rw [h3]; rfl

def rdB (s : ByteArray) (l : List UInt8) (d o : Int) : SB := .box 131 [.val (.string s), .val (.int .i64 ((pos s l : Nat) : Int)), .val (.int .i64 d), .val (.int .i64 o)]
abbrev me : SV := .si (.ce (.ptr 0 0))
def faultV (e : Nat) (p : Nat) : Value := .iface 133 (.agg #[.int .i64 (e : Int), .int .i64 ((p : Nat) : Int)])
def Out {α : Type} (s : ByteArray) (d o : Int) (Rep : Hp → α → SV → Prop) (res : Res α) (e : SE) (H' : Hp) (G' : List SB) : Prop :=
 match res with
 | .ok x r => Sfx r (tL s) ∧ (∃ sv, e = .ret sv ∧ Rep H' x sv) ∧ G' = [rdB s r d o]
 | .no er r => e = .pan [{ v := faultV er (pos s r), recovered := false }] ∧ ∃ l' o', G' = [rdB s l' d o']
def RU : Hp → Unit → SV → Prop := fun _ _ sv => sv = .tu []

theorem peek_ (s : ByteArray) (l : List UInt8) (hl : Sfx l (tL s)) (d o : Int) (H : Hp) : CallO Tryz.prog 165 [me] H [rdB s l d o] fun e H' G' => e = .ret (pv (.int .u8 ((pk l).toNat : Int))) ∧ H' = H ∧ G' = [rdB s l d o] := by
 refine CallO.of_body tab Tryz.func165 rfl (nt := Tryz.f165.ntmps) rfl (by kernel_rfl) ?_
 (conv => whnf)
 refine WS.draw tab mixed (.take 0 (.take 1 (.take 2 (.take 3 (.take 4 (.take 5 (.take 6 (.take 7 (.take 8 (.take 9 .done)))))))))) (by kernel_rfl) [] ?_
 (conv => whnf)
 refine br.of (fun h1 => ?_) (fun h1 => ?_) <;> (conv => whnf)
 ·simp only [beq_iff_eq] at h1
  cases l with
  | nil => exact ⟨rfl, rfl, rfl⟩
  | cons c r => have := pos_lt hl; omega
 ·simp only [beq_eq_false_iff_ne, ne_eq] at h1
  refine WS.draw tab mixed (.take 0 (.take 1 (.take 2 (.take 3 (.take 4 (.take 5 (.take 6 (.take 7 (.take 8 (.take 9 .done)))))))))) (by kernel_rfl) [] ?_
  (conv => whnf)
  cases l with
  | nil => exact absurd (by rw [pos_nil]) h1
  | cons c r =>
   have := pos_lt hl
   refine ⟨⟨by omega, by omega⟩, ?_⟩
   have hb := byte_pos hl
   generalize byteAt s _ = v at *
   subst hb
   (conv => whnf)
   exact ⟨rfl, rfl, rfl⟩
theorem fail_ (e p : Int) (s : ByteArray) (l : List UInt8) (d o : Int) (H : Hp) : CallO Tryz.prog 172 [me, pv (.int .i64 e), pv (.int .i64 p)] H [rdB s l d o] fun x H' G' => x = .pan [{ v := .iface 133 (.agg #[.int .i64 e, .int .i64 p]), recovered := false }] ∧ H' = H ∧ G' = [rdB s l d o] := by
 refine CallO.of_body tab Tryz.func172 rfl (nt := Tryz.f172.ntmps) rfl (by kernel_rfl) ?_
 (conv => whnf)
 exact ⟨rfl, rfl, rfl⟩
theorem stop_ (s : ByteArray) (l : List UInt8) (d o : Int) (H : Hp) : CallO Tryz.prog 132 [me] H [rdB s l d o] fun x H' G' => x = .pan [{ v := faultV 31 (pos s l), recovered := false }] ∧ H' = H ∧ G' = [rdB s l d o] := by
 refine CallO.of_body tab Tryz.func132 rfl (nt := Tryz.f132.ntmps) rfl (by kernel_rfl) ?_
 (conv => whnf)
 refine ⟨⟨_, Tryz.func172, rfl, by kernel_rfl⟩, CallS.use (fail_ 31 (pos s l : Nat) s l d o H) [0] rfl rfl ⟨rfl, trivial⟩ ?_⟩
 rintro e H' G' hle ⟨rfl, rfl, rfl⟩
 (conv => whnf)
 exact ⟨rfl, rfl, rfl⟩
theorem tk_self (c : UInt8) (r : List UInt8) : tk c (c :: r) = some r := by simp only [tk, if_true]
theorem tk_none {c : UInt8} {l : List UInt8} (h : (pk l) ≠ c) : tk c l = none := by
 cases l with
 | nil => rfl
 | cons x r => exact if_neg (show ¬ x = c from h)
theorem tk_pk {c : UInt8} {l : List UInt8} (hc : c ≠ 0) (h : pk l = c) : l = c :: l.tail := by
 cases l with
 | nil => exact absurd h.symm hc
 | cons x r => rw [show x = c from h]; rfl
theorem pos_int {s : ByteArray} {c : UInt8} {r : List UInt8} (h : Sfx (c :: r) (tL s)) : ((pos s (c :: r) : Nat) : Int) + 1 = ((pos s r : Nat) : Int) := by rw [pos_tail h]; rfl
theorem next_ (c : UInt8) (hc : c ≠ 0) (s : ByteArray) (l : List UInt8) (hl : Sfx l (tL s)) (hs : s.size ≤ 1000000) (d o : Int) (H : Hp) : CallO Tryz.prog 141 [me, pv (.int .u8 (c.toNat : Int))] H [rdB s l d o] fun e H' G' => H' = H ∧
  match tk c l with
  | some r => Sfx r (tL s) ∧ e = .ret (pv (.bool true)) ∧ G' = [rdB s r d o]
  | none => e = .ret (pv (.bool false)) ∧ G' = [rdB s l d o] := by
 refine CallO.of_body tab Tryz.func141 rfl (nt := Tryz.f141.ntmps) rfl (by kernel_rfl) ?_
 (conv => whnf)
 refine ⟨⟨_, Tryz.func165, rfl, by kernel_rfl⟩, CallS.use (peek_ s l hl d o H) [0] rfl rfl ⟨rfl, trivial⟩ ?_⟩
 rintro e H' G' hle ⟨rfl, rfl, rfl⟩
 (conv => whnf)
 refine br.of (fun h1 => ?_) (fun h1 => ?_) <;> (conv => whnf)
 ·simp only [bne_iff_ne, ne_eq] at h1
  have : tk c l = none := by
   cases l with
   | nil => rfl
   | cons x r =>
    simp only [tk]
    rw [if_neg]
    intro hx
    subst hx
    exact h1 rfl
  rw [this]
  exact ⟨rfl, rfl, rfl⟩
 ·simp only [bne_eq_false_iff_eq] at h1
  cases l with
  | nil => exact absurd (UInt8.toNat_inj.1 (show c.toNat = (0 : UInt8).toNat by simp only [pk] at h1; omega)) hc
  | cons x r =>
   have hx : x = c := UInt8.toNat_inj.1 (by simp only [pk] at h1; omega)
   subst hx
   have hp := pos_tail hl
   have hq := pos_lt hl
   rw [wrap64 (by omega) (by omega)]
   rw [tk_self]
   refine ⟨rfl, hl.tail, rfl, ?_⟩
   show [SB.box _ [_, SC.val (.int .i64 _), _, _]] = [SB.box _ [_, SC.val (.int .i64 _), _, _]]
   rw [hp]; rfl
theorem rd_step {s : ByteArray} {c : UInt8} {r : List UInt8} (h : Sfx (c :: r) (tL s)) (hs : s.size ≤ 1000000) (d o : Int) : SB.box 131 [.val (.string s), .val (.int .i64 (IntKind.i64.wrap (((pos s (c :: r) : Nat) : Int) + 1))), .val (.int .i64 d), .val (.int .i64 o)] = rdB s r d o := by
 have hq := pos_lt h
 rw [wrap64 (by omega) (by omega), pos_int h]; rfl
theorem must_ (c : UInt8) (hc : c ≠ 0) (s : ByteArray) (l : List UInt8) (hl : Sfx l (tL s)) (hs : s.size ≤ 1000000) (d o : Int) (H : Hp) : CallO Tryz.prog 202 [me, pv (.int .u8 (c.toNat : Int))] H [rdB s l d o] fun e H' G' => H' = H ∧ Out s d o RU (mustP c l) e H' G' := by
 refine CallO.of_body tab Tryz.func202 rfl (nt := Tryz.f202.ntmps) rfl (by kernel_rfl) ?_
 (conv => whnf)
 refine ⟨⟨_, Tryz.func141, rfl, by kernel_rfl⟩, CallS.use (next_ c hc s l hl hs d o H) [0] rfl rfl ⟨rfl, trivial⟩ ?_⟩
 rintro e H' G' hle ⟨rfl, h⟩
 unfold mustP
 cases ht : tk c l with
 | some r =>
  rw [ht] at h
  obtain ⟨h1, rfl, rfl⟩ := h
  (conv => whnf)
  exact ⟨rfl, h1, ⟨_, rfl, rfl⟩, rfl⟩
 | none =>
  rw [ht] at h
  obtain ⟨rfl, rfl⟩ := h
  (conv => whnf)
  refine ⟨⟨_, Tryz.func132, rfl, by kernel_rfl⟩, CallS.use (stop_ s l d o _) [0] rfl rfl ⟨rfl, trivial⟩ ?_⟩
  rintro e H2 G' hle2 ⟨rfl, rfl, rfl⟩
  (conv => whnf)
  exact ⟨rfl, rfl, l, o, rfl⟩
theorem blankP_yes {c : UInt8} {r : List UInt8} (h : isBlank c = true) : blankP (c :: r) = blankP r := if_pos h
theorem blankP_no {r : List UInt8} (h : isBlank (pk r) = false) : blankP r = r := by
 cases r with
 | nil => rfl
 | cons c r => exact if_neg (by rw [show isBlank c = false from h]; exact Bool.false_ne_true)
theorem digsP_yes {c : UInt8} {r : List UInt8} (h : isDig c = true) : digsP (c :: r) = digsP r := if_pos h
theorem digsP_no {r : List UInt8} (h : isDig (pk r) = false) : digsP r = r := by
 cases r with
 | nil => rfl
 | cons c r => exact if_neg (by rw [show isDig c = false from h]; exact Bool.false_ne_true)
def blankS : List UInt8 := [32, 9, 10, 13]
theorem ix_blank (c : UInt8) : decide (ixB blankS c ≥ 0) = isBlank c := by
 have h : ∀ n : Fin 256, decide (ixB blankS (UInt8.ofNat n.val) ≥ 0) = isBlank (UInt8.ofNat n.val) := by decide +kernel
 have := h ⟨c.toNat, c.toNat_lt⟩
 simpa using this
theorem blank_ (s : ByteArray) (l : List UInt8) (hl : Sfx l (tL s)) (hs : s.size ≤ 1000000) (d o : Int) (H : Hp) : CallO Tryz.prog 130 [me] H [rdB s l d o] fun e H' G' => H' = H ∧ e = .ret (.tu []) ∧ G' = [rdB s (blankP l) d o] := by
 refine CallO.of_body tab Tryz.func130 rfl (nt := Tryz.f130.ntmps) rfl (by kernel_rfl) ?_
 (conv => whnf)
 refine WS.loop (fun k F H2 G => ∃ r, Sfx r (tL s) ∧ blankP r = blankP l ∧ k = r.length ∧ F = [(0, me)] ∧ H2 = H ∧ G = [rdB s r d o]) (l.length + 1) ?_ ?_
 ·refine ⟨l.length, by omega, _, _, [0], ⟨l, hl, rfl, rfl, rfl, rfl, rfl⟩, ?_⟩
  exact ⟨rfl, ⟨rfl, trivial⟩, rfl, trivial⟩
 rintro k F H2 G hle ⟨r, hr, hb, rfl, rfl, rfl, rfl⟩
 refine codeL.go tab ?_
 (conv => whnf)
 refine ⟨⟨_, Tryz.func165, rfl, by kernel_rfl⟩, CallS.use (peek_ s r hr d o _) [0] rfl rfl ⟨rfl, trivial⟩ ?_⟩
 rintro e H' G' hle ⟨rfl, rfl, rfl⟩
 (conv => whnf)
 refine br.of (fun h1 => ?_) (fun h1 => ?_) <;> (conv => whnf)
 ·refine ⟨⟨_, Tryz.func165, rfl, by kernel_rfl⟩, CallS.use (peek_ s r hr d o _) [0] rfl rfl ⟨rfl, trivial⟩ ?_⟩
  rintro e H' G' hle ⟨rfl, rfl, rfl⟩
  (conv => whnf)
  refine ⟨⟨_, Tryz.func100, rfl, by kernel_rfl⟩, CallS.use (indexByte ⟨blankS.toArray⟩ (pk r) _ []) [] rfl rfl trivial ?_⟩
  rintro e H' G' hle ⟨rfl, rfl, rfl⟩
  (conv => whnf)
  refine br.of (fun h2 => ?_) (fun h2 => ?_) <;> (conv => whnf)
  all_goals (have h2 := (ix_blank (pk r)).symm.trans h2)
  ·cases r with
   | nil => cases h2
   | cons c r =>
    rw [rd_step hr hs]
    refine ⟨r.length, by rw [List.length_cons]; omega, _, _, [0], ⟨r, hr.tail, ?_, rfl, rfl, rfl, rfl⟩, ?_⟩
    ·rw [← hb]; exact (blankP_yes h2).symm
    ·exact ⟨rfl, ⟨rfl, trivial⟩, rfl, trivial⟩
  ·rw [← hb, blankP_no h2]
   exact ⟨rfl, rfl, rfl⟩
 ·simp only [bne_eq_false_iff_eq] at h1
  have h2 : pk r = 0 := UInt8.toNat_inj.1 (by show (pk r).toNat = 0; omega)
  rw [← hb, blankP_no (by rw [h2]; rfl)]
  exact ⟨rfl, rfl, rfl⟩
theorem optP_sfx {c : UInt8} {l t : List UInt8} (h : Sfx l t) : Sfx (optP c l) t := by
 unfold optP
 cases ht : tk c l with
 | none => exact h
 | some r => exact (tk_sfx ht).trans h
theorem nextB (c : UInt8) (hc : c ≠ 0) (s : ByteArray) (l : List UInt8) (hl : Sfx l (tL s)) (hs : s.size ≤ 1000000) (d o : Int) (H : Hp) : CallO Tryz.prog 141 [me, pv (.int .u8 (c.toNat : Int))] H [rdB s l d o] fun e H' G' => H' = H ∧
  e = .ret (pv (.bool (tkB c l))) ∧ G' = [rdB s (optP c l) d o] := by
 refine (next_ c hc s l hl hs d o H).mono ?_
 rintro e H' G' hle ⟨rfl, h⟩
 refine ⟨rfl, ?_⟩
 unfold tkB optP
 cases ht : tk c l with
 | none => rw [ht] at h; exact h
 | some r => rw [ht] at h; exact h.2
theorem digit_ (c : UInt8) (H : Hp) : CallO Tryz.prog 171 [pv (.int .u8 (c.toNat : Int))] H [] fun e H' G' => H' = H ∧ e = .ret (pv (.bool (isDig c))) ∧ G' = [] := by
 refine CallO.of_body tab Tryz.func171 rfl (nt := Tryz.f171.ntmps) rfl (by kernel_rfl) ?_
 (conv => whnf)
 refine br.of (fun h1 => ?_) (fun h1 => ?_) <;> (conv => whnf)
 ·simp only [ge_iff_le, decide_eq_true_eq] at h1
  refine ⟨rfl, ?_, rfl⟩
  show SE.ret (pv (.bool _)) = SE.ret (pv (.bool _))
  unfold isDig
  rw [decide_eq_true (show 48 ≤ c.toNat by omega), Bool.true_and]
  congr 3
  exact decide_eq_decide.2 (by omega)
 ·simp only [ge_iff_le, decide_eq_false_iff_not] at h1
  refine ⟨rfl, ?_, rfl⟩
  show SE.ret (pv (.bool _)) = SE.ret (pv (.bool _))
  unfold isDig
  rw [decide_eq_false (show ¬ 48 ≤ c.toNat by omega), Bool.false_and]
theorem digits_ (s : ByteArray) (l : List UInt8) (hl : Sfx l (tL s)) (hs : s.size ≤ 1000000) (d o : Int) (H : Hp) : CallO Tryz.prog 142 [me] H [rdB s l d o] fun e H' G' => H' = H ∧ Out s d o RU (digitsP l) e H' G' := by
 refine CallO.of_body tab Tryz.func142 rfl (nt := Tryz.f142.ntmps) rfl (by kernel_rfl) ?_
 (conv => whnf)
 refine ⟨⟨_, Tryz.func165, rfl, by kernel_rfl⟩, CallS.use (peek_ s l hl d o H) [0] rfl rfl ⟨rfl, trivial⟩ ?_⟩
 rintro e H' G' hle ⟨rfl, rfl, rfl⟩
 (conv => whnf)
 refine ⟨⟨_, Tryz.func171, rfl, by kernel_rfl⟩, CallS.use (digit_ (pk l) _) [] rfl rfl trivial ?_⟩
 rintro e H' G' hle ⟨rfl, rfl, rfl⟩
 (conv => whnf)
 unfold digitsP
 cases hd : isDig (pk l) <;> (conv => whnf)
 ·refine ⟨⟨_, Tryz.func132, rfl, by kernel_rfl⟩, CallS.use (stop_ s l d o _) [0] rfl rfl ⟨rfl, trivial⟩ ?_⟩
  rintro e H2 G' hle2 ⟨rfl, rfl, rfl⟩
  (conv => whnf)
  exact ⟨rfl, rfl, l, o, rfl⟩
 ·refine WS.loop (fun k F H2 G => ∃ r, Sfx r (tL s) ∧ digsP r = digsP l ∧ k = r.length ∧ F = [(0, me)] ∧ H2 = H' ∧ G = [rdB s r d o]) (l.length + 1) ?_ ?_
  ·refine ⟨l.length, by omega, _, _, [0], ⟨l, hl, rfl, rfl, rfl, rfl, rfl⟩, ?_⟩
   exact ⟨rfl, ⟨rfl, trivial⟩, rfl, trivial⟩
  rintro k F H2 G hle ⟨r, hr, hb, rfl, rfl, rfl, rfl⟩
  refine codeL.go tab ?_
  (conv => whnf)
  refine ⟨⟨_, Tryz.func165, rfl, by kernel_rfl⟩, CallS.use (peek_ s r hr d o _) [0] rfl rfl ⟨rfl, trivial⟩ ?_⟩
  rintro e H' G' hle ⟨rfl, rfl, rfl⟩
  (conv => whnf)
  refine ⟨⟨_, Tryz.func171, rfl, by kernel_rfl⟩, CallS.use (digit_ (pk r) _) [] rfl rfl trivial ?_⟩
  rintro e H' G' hle ⟨rfl, rfl, rfl⟩
  (conv => whnf)
  cases h2 : isDig (pk r) <;> (conv => whnf)
  ·refine ⟨rfl, ?_⟩
   show Out s d o RU (Res.ok () (digsP l)) _ _ _
   rw [← hb, digsP_no h2]
   exact ⟨hr, ⟨_, rfl, rfl⟩, rfl⟩
  ·cases r with
   | nil => cases h2
   | cons c r =>
    rw [rd_step hr hs]
    refine ⟨r.length, by rw [List.length_cons]; omega, _, _, [0], ⟨r, hr.tail, ?_, rfl, rfl, rfl, rfl⟩, ?_⟩
    ·rw [← hb]; exact (digsP_yes h2).symm
    ·exact ⟨rfl, ⟨rfl, trivial⟩, rfl, trivial⟩
theorem word_ (w : ByteArray) (hw : w.data.toList.all (fun c => c != 0) = true) (hw2 : w.size ≤ 100) (s : ByteArray) (l : List UInt8) (hl : Sfx l (tL s)) (hs : s.size ≤ 1000000) (d o : Int) (H : Hp) : CallO Tryz.prog 166 [me, pv (.string w)] H [rdB s l d o] fun e H' G' => H' = H ∧ Out s d o RU (wordP w.data.toList l) e H' G' := by
 refine CallO.of_body tab Tryz.func166 rfl (nt := Tryz.f166.ntmps) rfl (by kernel_rfl) ?_
 (conv => whnf)
 refine WS.loop (fun k F H2 G => ∃ (i : Nat) (r : List UInt8), Sfx r (tL s) ∧ i ≤ w.size ∧ wordP (w.data.toList.drop i) r = wordP w.data.toList l ∧ k = w.size - i ∧ F = [(0, me), (1, pv (.string w)), (6, pv (.int .i64 w.size)), (7, pv (.int .i64 i))] ∧ H2 = H ∧ G = [rdB s r d o]) (w.size + 1) ?_ ?_
 ·refine ⟨w.size, by omega, _, _, [0], ⟨0, l, hl, by omega, rfl, rfl, rfl, rfl, rfl⟩, ?_⟩
  exact ⟨rfl, ⟨rfl, trivial⟩, rfl, rfl, rfl, rfl, trivial⟩
 rintro k F H2 G hle ⟨i, r, hr, hi, hb, rfl, rfl, rfl, rfl⟩
 refine codeL.go tab ?_
 (conv => whnf)
 refine br.of (fun h1 => ?_) (fun h1 => ?_) <;> (conv => whnf)
 ·simp only [decide_eq_true_eq] at h1
  have hi2 : i < w.data.toList.length := by have := size_eq w; unfold tL at this; omega
  refine ⟨⟨by omega, by omega⟩, ?_⟩
  have hv : byteAt w (i : Int) = ((w.data.toList[i]).toNat : Int) := by
   unfold byteAt
   rw [Int.toNat_natCast, List.getD_eq_getElem?_getD, List.getElem?_eq_getElem hi2]; rfl
  generalize byteAt w (i : Int) = v at *
  subst hv
  (conv => whnf)
  have hc : w.data.toList[i] ≠ 0 := by
   have := List.all_eq_true.1 hw _ (List.getElem_mem hi2)
   simpa using this
  have hdr : w.data.toList.drop i = w.data.toList[i] :: w.data.toList.drop (i + 1) := List.drop_eq_getElem_cons hi2
  refine ⟨⟨_, Tryz.func202, rfl, by kernel_rfl⟩, CallS.use (must_ _ hc s r hr hs d o _) [0] rfl rfl ⟨rfl, trivial⟩ ?_⟩
  rintro e H' G' hle ⟨rfl, hout⟩
  rw [hdr] at hb
  simp only [wordP] at hb
  cases hm : mustP w.data.toList[i] r with
  | no er r2 =>
   rw [hm] at hout hb
   obtain ⟨rfl, l2, o2, rfl⟩ := hout
   (conv => whnf)
   refine ⟨rfl, ?_⟩
   rw [← hb]
   exact ⟨rfl, l2, o2, rfl⟩
  | ok x r2 =>
   rw [hm] at hout hb
   obtain ⟨hr2, ⟨sv, rfl, rfl⟩, rfl⟩ := hout
   (conv => whnf)
   rw [wrap64 (by omega) (by omega)]
   refine ⟨w.size - (i + 1), by omega, _, _, [0], ⟨i + 1, r2, hr2, by omega, hb, rfl, rfl, rfl, rfl⟩, ?_⟩
   exact ⟨rfl, ⟨rfl, trivial⟩, rfl, rfl, rfl, rfl, trivial⟩
 ·simp only [decide_eq_false_iff_not] at h1
  refine ⟨rfl, ?_⟩
  rw [← hb, List.drop_of_length_le (by have := size_eq w; unfold tL at this; omega)]
  exact ⟨hr, ⟨_, rfl, rfl⟩, rfl⟩
end Go.Kx.Js
namespace Go.Kx.Js
open Go.Proofs Go.Kx Go.RowKit
set_option maxRecDepth 20000
theorem wrapU8 {x : Int} (h : 0 ≤ x) (h' : x < 256) : IntKind.u8.wrap x = x := by
 show x.emod 256 = x
 exact Int.emod_eq_of_lt h h'
theorem wrap32 {x : Int} (h : -2147483648 ≤ x) (h' : x < 2147483648) : IntKind.i32.wrap x = x := by
 show (if (true && decide (x.emod 4294967296 ≥ 2147483648)) = true then x.emod 4294967296 - 4294967296 else x.emod 4294967296) = x
 have : x.emod 4294967296 = x % 4294967296 := rfl
 simp only [Bool.true_and, decide_eq_true_eq, this]
 split <;> omega
theorem or32 {a b : Nat} (ha : a < 4294967296) (hb : b < 4294967296) : (BitVec.ofInt IntKind.i32.bits (a : Int) ||| BitVec.ofInt IntKind.i32.bits (b : Int)).toNat = a ||| b := by
 show (BitVec.ofInt 32 (a : Int) ||| BitVec.ofInt 32 (b : Int)).toNat = a ||| b
 rw [BitVec.toNat_or, BitVec.ofInt_natCast, BitVec.ofInt_natCast, BitVec.toNat_ofNat, BitVec.toNat_ofNat, Nat.mod_eq_of_lt ha, Nat.mod_eq_of_lt hb]
theorem or16 {n d : Nat} (h : d < 16) : n * 16 ||| d = n * 16 + d := by
 have := Nat.shiftLeft_add_eq_or_of_lt (i := 4) (b := d) h n
 rw [Nat.shiftLeft_eq] at this
 exact this.symm
def lowerS : List UInt8 := [48, 49, 50, 51, 52, 53, 54, 55, 56, 57, 97, 98, 99, 100, 101, 102]
def lowC (c : UInt8) : UInt8 := if 65 ≤ c.toNat ∧ c.toNat ≤ 70 then c + 32 else c
theorem ix_hex (c : UInt8) : ixB lowerS (lowC c) = match hexD c with
  | some d => (d : Int)
  | none => -1 := by
 have h : ∀ n : Fin 256, ixB lowerS (lowC (UInt8.ofNat n.val)) = (match hexD (UInt8.ofNat n.val) with
  | some d => (d : Int)
  | none => -1) := by decide +kernel
 have := h ⟨c.toNat, c.toNat_lt⟩
 simpa using this
theorem lowC_yes {c : UInt8} (h1 : 65 ≤ c.toNat) (h2 : c.toNat ≤ 70) : IntKind.u8.wrap ((c.toNat : Int) + 32) = ((lowC c).toNat : Int) := by
 unfold lowC
 rw [if_pos ⟨h1, h2⟩, UInt8.toNat_add]
 have : (32 : UInt8).toNat = 32 := rfl
 rw [wrapU8 (by omega) (by omega)]
 omega
theorem lowC_no {c : UInt8} (h : ¬ (65 ≤ c.toNat ∧ c.toNat ≤ 70)) : (c.toNat : Int) = ((lowC c).toNat : Int) := by
 unfold lowC
 rw [if_neg h]
theorem hexD_lt {c : UInt8} {d : Nat} (h : hexD c = some d) : d < 16 := by
 unfold hexD at h
 split at h
 ·injection h; omega
 ·split at h
  ·injection h; omega
  ·split at h
   ·injection h; omega
   ·cases h
theorem hexP_some {k n d : Nat} {l : List UInt8} (h : hexD (pk l) = some d) : hexP (k + 1) n l = hexP k (n * 16 + d) l.tail := by
 show (match hexD (pk l) with | some d => hexP k (n * 16 + d) l.tail | none => .no 31 l) = _
 rw [h]
theorem hexP_none {k n : Nat} {l : List UInt8} (h : hexD (pk l) = none) : hexP (k + 1) n l = .no 31 l := by
 show (match hexD (pk l) with | some d => hexP k (n * 16 + d) l.tail | none => .no 31 l) = _
 rw [h]
theorem hexD_pk {l : List UInt8} {d : Nat} (h : hexD (pk l) = some d) : l = pk l :: l.tail := by
 cases l with
 | nil => cases h
 | cons c r => rfl
theorem hex_ (s : ByteArray) (l : List UInt8) (hl : Sfx l (tL s)) (hs : s.size ≤ 1000000) (d o : Int) (H : Hp) : CallO Tryz.prog 225 [me] H [rdB s l d o] fun e H' G' => H' = H ∧ Out s d o (fun (_ : Hp) (n : Nat) (sv : SV) => n < 65536 ∧ sv = pv (.int .i32 (n : Int))) (hexP 4 0 l) e H' G' := by
 refine CallO.of_body tab Tryz.func225 rfl (nt := Tryz.f225.ntmps) rfl (by kernel_rfl) ?_
 (conv => whnf)
 refine WS.loop (fun k F H2 G => ∃ (i n : Nat) (r : List UInt8), Sfx r (tL s) ∧ i ≤ 4 ∧ n < 16 ^ i ∧ hexP (4 - i) n r = hexP 4 0 l ∧ k = 4 - i ∧ F = [(0, me), (3, pv (.int .i32 n)), (6, pv (.int .i64 i))] ∧ H2 = H ∧ G = [rdB s r d o]) 5 ?_ ?_
 ·refine ⟨4, by omega, _, _, [0], ⟨0, 0, l, hl, by omega, by decide, rfl, rfl, rfl, rfl, rfl⟩, ?_⟩
  exact ⟨rfl, ⟨rfl, trivial⟩, rfl, rfl, rfl, trivial⟩
 rintro k F H2 G hle ⟨i, n, r, hr, hi, hn, hb, rfl, rfl, rfl, rfl⟩
 refine codeL.go tab ?_
 (conv => whnf)
 refine br.of (fun h1 => ?_) (fun h1 => ?_) <;> (conv => whnf)
 ·simp only [decide_eq_true_eq] at h1
  refine ⟨⟨_, Tryz.func165, rfl, by kernel_rfl⟩, CallS.use (peek_ s r hr d o _) [0] rfl rfl ⟨rfl, trivial⟩ ?_⟩
  rintro e H' G' hle ⟨rfl, rfl, rfl⟩
  (conv => whnf)
  refine br.of (fun h2 => ?_) (fun h2 => ?_) <;> (conv => whnf)
  any_goals (refine br.of (fun h3 => ?_) (fun h3 => ?_) <;> (conv => whnf))
  all_goals (first
   | (rw [lowC_yes (c := pk r) (by have := of_decide_eq_true h2; omega) (by have := of_decide_eq_true h3; omega)]; clear h2 h3)
   | (rw [lowC_no (c := pk r) (by have := of_decide_eq_false h3; omega)]; clear h2 h3)
   | (rw [lowC_no (c := pk r) (by have := of_decide_eq_false h2; omega)]; clear h2))
  all_goals
   refine ⟨⟨_, Tryz.func100, rfl, by kernel_rfl⟩, CallS.use (indexByte ⟨lowerS.toArray⟩ (lowC (pk r)) _ []) [] rfl rfl trivial ?_⟩
   rintro e H' G' hle ⟨rfl, rfl, rfl⟩
   (conv => whnf)
   have hix : ixB (⟨lowerS.toArray⟩ : ByteArray).data.toList (lowC (pk r)) = _ := ix_hex (pk r)
   have h4 : 4 - i = (4 - (i + 1)) + 1 := by omega
   rw [h4] at hb
   refine br.of (fun h5 => ?_) (fun h5 => ?_) <;> (conv => whnf)
   ·cases hx : hexD (pk r) with
    | some dd =>
     rw [hx] at hix
     change _ = (dd : Int) at hix
     have h5 := of_decide_eq_true h5
     omega
    | none =>
     rw [hexP_none hx] at hb
     refine ⟨⟨_, Tryz.func132, rfl, by kernel_rfl⟩, CallS.use (stop_ s r d o _) [0] rfl rfl ⟨rfl, trivial⟩ ?_⟩
     rintro e H2 G' hle2 ⟨rfl, rfl, rfl⟩
     (conv => whnf)
     rw [← hb]
     exact ⟨rfl, rfl, r, o, rfl⟩
   ·have h5 := of_decide_eq_false h5
    cases hx : hexD (pk r) with
    | none =>
     rw [hx] at hix
     change _ = (-1 : Int) at hix
     omega
    | some dd =>
     rw [hx] at hix
     change _ = (dd : Int) at hix
     rw [hexP_some hx] at hb
     have hdd := hexD_lt hx
     have hn2 : n < 4096 := Nat.lt_of_lt_of_le hn (Nat.pow_le_pow_right (by decide : 16 > 0) (by omega : i ≤ 3))
     refine ⟨by decide, ?_⟩
     (conv => whnf)
     rw [hix, wrap32 (x := (dd : Int)) (by omega) (by omega), wrap32 (x := (n : Int) * 2 ^ min (Int.toNat 4) IntKind.i32.bits) (by show _ ≤ (n : Int) * 16; omega) (by show (n : Int) * 16 < _; omega), show (n : Int) * 2 ^ min (Int.toNat 4) IntKind.i32.bits = ((n * 16 : Nat) : Int) by show (n : Int) * 16 = _; omega, or32 (by omega) (by omega), or16 hdd, wrap32 (by omega) (by omega), wrap64 (x := (i : Int) + 1) (by omega) (by omega)]
     have hr2 := hexD_pk hx
     rw [hr2] at hr ⊢
     rw [rd_step hr hs]
     refine ⟨4 - (i + 1), by omega, _, _, [0], ⟨i + 1, n * 16 + dd, r.tail, hr.tail, by omega, by rw [Nat.pow_succ]; omega, hb, rfl, rfl, rfl, rfl⟩, ?_⟩
     exact ⟨rfl, ⟨rfl, trivial⟩, rfl, rfl, rfl, trivial⟩
 ·simp only [decide_eq_false_iff_not] at h1
  obtain rfl : i = 4 := by omega
  refine ⟨rfl, ?_⟩
  rw [← hb]
  exact ⟨hr, ⟨_, rfl, by omega, rfl⟩, rfl⟩
end Go.Kx.Js
namespace Go.Kx.Js
open Go.Proofs Go.Kx Go.RowKit
set_option maxRecDepth 20000
theorem wrapU32 {x : Int} (h : 0 ≤ x) (h' : x < 4294967296) : IntKind.u32.wrap x = x := by
 show x.emod 4294967296 = x
 exact Int.emod_eq_of_lt h h'
theorem ones_u8 : ∀ (l : List Int), ∀ u ∈ l.map (Value.int .u8), u.oneCell' = true := by
 intro l u hu
 obtain ⟨x, _, rfl⟩ := List.mem_map.1 hu
 rfl
theorem row_eq {t : TypeId} {n m : Nat} {xs ys : List Value} (h : xs = ys) (h2 : n = m) : SB.row t 1 n xs = SB.row t 1 m ys := by rw [h, h2]
theorem cells2 (bs : List UInt8) (a b : Int) : bCells bs ++ [.int .u8 (IntKind.u8.wrap a), .int .u8 (IntKind.u8.wrap b)] = bCells (bs ++ [by1 a, by1 b]) := by
 rw [by1_eq, by1_eq, ← bCells_append]; rfl
theorem cells3 (bs : List UInt8) (a b c : Int) : bCells bs ++ [.int .u8 (IntKind.u8.wrap a), .int .u8 (IntKind.u8.wrap b), .int .u8 (IntKind.u8.wrap c)] = bCells (bs ++ [by1 a, by1 b, by1 c]) := by
 rw [by1_eq, by1_eq, by1_eq, ← bCells_append]; rfl
theorem cells4 (bs : List UInt8) (a b c d : Int) : bCells bs ++ [.int .u8 (IntKind.u8.wrap a), .int .u8 (IntKind.u8.wrap b), .int .u8 (IntKind.u8.wrap c), .int .u8 (IntKind.u8.wrap d)] = bCells (bs ++ [by1 a, by1 b, by1 c, by1 d]) := by
 rw [by1_eq, by1_eq, by1_eq, by1_eq, ← bCells_append]; rfl
theorem nonAscii (x : Int) (h0 : 128 ≤ x) (hr : x < 1114112) (hsur : x < 55296 ∨ 57344 ≤ x) (bs : List UInt8) (hn : bs.length ≤ 1000000) (H : Hp) : CallO Tryz.prog 174 [.si (.ce (.self 0)), pv (.int .i32 x)] H [.row 5 1 bs.length (bCells bs)] fun e _ G' =>
  e = .ret (.si (.ce (.self 1))) ∧ G' = [.dead, .row 5 1 (bs ++ runeB x).length (bCells (bs ++ runeB x))] := by
 refine CallO.of_body tab Tryz.func174 rfl (nt := Tryz.f174.ntmps) rfl (by kernel_rfl) ?_
 (conv => whnf)
 rw [wrapU32 (by omega) (by omega)]
 refine br.of (fun h1 => ?_) (fun h1 => ?_) <;> (conv => whnf)
 ·have h1 := of_decide_eq_true h1
  refine ⟨by decide, ?_⟩
  (conv => whnf)
  refine ⟨by decide, .inl ?_⟩
  intro g H2 hle hrd
  (conv => whnf)
  refine ⟨_, rfl, hrd, ones_u8 [_, _], ?_⟩
  (conv => whnf)
  refine ⟨by show _ * 2 ≤ _; omega, ?_⟩
  (conv => whnf)
  refine ⟨rfl, ?_⟩
  have e : runeB x = [by1 (or8 192 (sh32 x 6)), by1 (or8 128 (IntKind.u8.wrap (and8 (IntKind.u8.wrap x) 63)))] := by unfold runeB; rw [if_neg (by omega), if_pos h1]
  rw [e]
  exact congrArg (fun b => [SB.dead, b]) (row_eq (cells2 bs _ _) (by simp))
 ·have h1 := of_decide_eq_false h1
  have go3 : ∀ {G' : List SB}, x ≤ 65535 → G' = [SB.dead, .row 5 1 (bs.length + 3) (bCells bs ++ [.int .u8 (IntKind.u8.wrap (or8 224 (sh32 x 12))), .int .u8 (IntKind.u8.wrap (or8 128 (IntKind.u8.wrap (and8 (sh32 x 6) 63)))), .int .u8 (IntKind.u8.wrap (or8 128 (IntKind.u8.wrap (and8 (IntKind.u8.wrap x) 63))))])] → G' = [.dead, .row 5 1 (bs ++ runeB x).length (bCells (bs ++ runeB x))] := by
   intro G' hx hG
   have e : runeB x = [by1 (or8 224 (sh32 x 12)), by1 (or8 128 (IntKind.u8.wrap (and8 (sh32 x 6) 63))), by1 (or8 128 (IntKind.u8.wrap (and8 (IntKind.u8.wrap x) 63)))] := by unfold runeB; rw [if_neg (by omega), if_neg h1, if_pos hx]
   rw [e, hG]
   exact congrArg (fun b => [SB.dead, b]) (row_eq (cells3 bs _ _ _) (by simp))
  refine br.of (fun h2 => ?_) (fun h2 => ?_) <;> (conv => whnf)
  ·rw [h2]
   (conv => whnf)
   have h2 := of_decide_eq_true h2
   refine ⟨by decide, ?_⟩
   (conv => whnf)
   refine ⟨by decide, ?_⟩
   (conv => whnf)
   refine ⟨by decide, .inl ?_⟩
   intro g H2 hle hrd
   (conv => whnf)
   refine ⟨_, rfl, hrd, ones_u8 [_, _, _], ?_⟩
   (conv => whnf)
   refine ⟨by show _ * 2 ≤ _; omega, ?_⟩
   (conv => whnf)
   exact ⟨rfl, go3 (by omega) rfl⟩
  ·have h2 := of_decide_eq_false h2
   refine br.of (fun h3 => ?_) (fun h3 => ?_) <;> (conv => whnf)
   ·refine br.of (fun h4 => ?_) (fun h4 => ?_) <;> (conv => whnf)
    ·have h4 := of_decide_eq_true h4
     refine ⟨by decide, ?_⟩
     (conv => whnf)
     refine ⟨by decide, ?_⟩
     (conv => whnf)
     refine ⟨by decide, .inl ?_⟩
     intro g H2 hle hrd
     (conv => whnf)
     refine ⟨_, rfl, hrd, ones_u8 [_, _, _], ?_⟩
     (conv => whnf)
     refine ⟨by show _ * 2 ≤ _; omega, ?_⟩
     (conv => whnf)
     exact ⟨rfl, go3 (by omega) rfl⟩
    ·have h4 := of_decide_eq_false h4
     refine br.of (fun h5 => ?_) (fun h5 => ?_) <;> (conv => whnf)
     ·refine br.of (fun h6 => ?_) (fun h6 => ?_) <;> (conv => whnf)
      ·refine ⟨by decide, ?_⟩
       (conv => whnf)
       refine ⟨by decide, ?_⟩
       (conv => whnf)
       refine ⟨by decide, ?_⟩
       (conv => whnf)
       refine ⟨by decide, .inl ?_⟩
       intro g H2 hle hrd
       (conv => whnf)
       refine ⟨_, rfl, hrd, ones_u8 [_, _, _, _], ?_⟩
       (conv => whnf)
       refine ⟨by show _ * 2 ≤ _; omega, ?_⟩
       (conv => whnf)
       refine ⟨rfl, ?_⟩
       have e : runeB x = [by1 (or8 240 (sh32 x 18)), by1 (or8 128 (IntKind.u8.wrap (and8 (sh32 x 12) 63))), by1 (or8 128 (IntKind.u8.wrap (and8 (sh32 x 6) 63))), by1 (or8 128 (IntKind.u8.wrap (and8 (IntKind.u8.wrap x) 63)))] := by unfold runeB; rw [if_neg (by omega), if_neg h1, if_neg h4]
       rw [e]
       exact congrArg (fun b => [SB.dead, b]) (row_eq (cells4 bs _ _ _ _) (by simp))
      ·have h6 := of_decide_eq_false h6
       omega
     ·have h5 := of_decide_eq_false h5
      omega
   ·have h3 := of_decide_eq_false h3
    omega
theorem appendRune (x : Int) (h0 : 0 ≤ x) (hr : x < 1114112) (hsur : x < 55296 ∨ 57344 ≤ x) (bs : List UInt8) (hn : bs.length ≤ 1000000) (H : Hp) : CallO Tryz.prog 135 [.si (.ce (.self 0)), pv (.int .i32 x)] H [.row 5 1 bs.length (bCells bs)] fun e _ G' =>
  e = .ret (.si (.ce (.self 1))) ∧ G' = [.dead, .row 5 1 (bs ++ runeB x).length (bCells (bs ++ runeB x))] := by
 refine CallO.of_body tab Tryz.func135 rfl (nt := Tryz.f135.ntmps) rfl (by kernel_rfl) ?_
 (conv => whnf)
 rw [wrapU32 (by omega) (by omega)]
 refine br.of (fun h1 => ?_) (fun h1 => ?_) <;> (conv => whnf)
 ·have h1 := of_decide_eq_true h1
  refine ⟨by decide, .inl ?_⟩
  intro g H2 hle hrd
  (conv => whnf)
  refine ⟨_, rfl, hrd, ones_u8 [_], ?_⟩
  (conv => whnf)
  refine ⟨by show _ * 2 ≤ _; omega, ?_⟩
  (conv => whnf)
  refine ⟨rfl, ?_⟩
  have e : runeB x = [by1 x] := by unfold runeB; rw [if_pos h1]
  rw [e]
  exact congrArg (fun b => [SB.dead, b]) (row_eq (bCells_snoc bs _ (by1_eq _)) (by simp))
 ·have h1 := of_decide_eq_false h1
  refine ⟨⟨_, Tryz.func174, rfl, by kernel_rfl⟩, CallS.use (nonAscii x (by omega) hr hsur bs hn H) [0] rfl rfl ⟨rfl, trivial⟩ ?_⟩
  rintro e H' G' hle ⟨rfl, rfl⟩
  (conv => whnf)
  exact ⟨rfl, rfl⟩
end Go.Kx.Js
