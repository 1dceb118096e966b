/- Values as texts: the pure reading of a text, and how a value lies in memory. No condition of its own. -/
import Derived.Test.YtbjiioclhgdeeaaGreatDoorMB06
namespace Go.Kx.Js
open Go.Kx Go.RowKit

inductive J
 | mk (kind : Int) (yes : Bool) (text : ByteArray) (list : List J) (mems : List (ByteArray × J))
abbrev Ms := List (ByteArray × J)
def J.kind : J → Int | .mk k _ _ _ _ => k
def J.yes : J → Bool | .mk _ y _ _ _ => y
def J.text : J → ByteArray | .mk _ _ t _ _ => t
def J.list : J → List J | .mk _ _ _ l _ => l
def J.mems : J → Ms | .mk _ _ _ _ m => m
def jNull : J := .mk 1 false ⟨#[]⟩ [] []
def jTruth (b : Bool) : J := .mk 2 b ⟨#[]⟩ [] []
def jNum (t : ByteArray) : J := .mk 3 false t [] []
def jStr (t : ByteArray) : J := .mk 4 false t [] []
def jArr (l : List J) : J := .mk 5 false ⟨#[]⟩ l []
def jObj (m : Ms) : J := .mk 6 false ⟨#[]⟩ [] m
def jNone : J := .mk 0 false ⟨#[]⟩ [] []

def RdV (H : Hp) (A : Option Addr) (xs : List Value) : Prop := (A = none → xs = []) ∧ ∀ a, A = some a → RdN H (some a) 0 xs
theorem RdV.mono {H H' : Hp} (h : H.Le H') {A : Option Addr} {xs : List Value} (hb : RdV H A xs) : RdV H' A xs := ⟨hb.1, fun a e => (hb.2 a e).mono h⟩
theorem RdV.of_frozen {H : Hp} {x : Value} {n : Nat} {vs : List Value} (h : Frozen H x n vs) : ∃ A cap, x = .slice A n cap ∧ RdV H A vs := by
 rcases h with ⟨rfl, h1, h2⟩ | ⟨g, o, cap, rfl, _, h2⟩
 ·subst h1
  exact ⟨none, 0, rfl, fun _ => h2, fun _ e => (nomatch e)⟩
 ·exact ⟨_, cap, rfl, fun e => (nomatch e), fun a e => by injection e with e; subst e; exact h2⟩
theorem RdV.nil (H : Hp) : RdV H none [] := ⟨fun _ => rfl, fun _ e => (nomatch e)⟩

mutual
inductive JAt (H : Hp) : J → List Value → Prop
 | mk {k : Int} {y : Bool} {t : ByteArray} {js : List J} {ms : Ms} {A : Option Addr} {n c : Nat} {B : Option Addr} {m d : Nat} {xs zs : List Value} :
  n = js.length → JsAt H js xs → RdV H A xs → m = ms.length → MsAt H ms zs → RdV H B zs → JAt H (.mk k y t js ms) [.int .i64 k, .bool y, .string t, .slice A n c, .slice B m d]
inductive JsAt (H : Hp) : List J → List Value → Prop
 | nil : JsAt H [] []
 | cons {j : J} {cs : List Value} {js : List J} {xs : List Value} : JAt H j cs → JsAt H js xs → JsAt H (j :: js) (cs ++ xs)
inductive MsAt (H : Hp) : Ms → List Value → Prop
 | nil : MsAt H [] []
 | cons {s : ByteArray} {j : J} {cs : List Value} {ms : Ms} {xs : List Value} : JAt H j cs → MsAt H ms xs → MsAt H ((s, j) :: ms) (.string s :: cs ++ xs)
end
mutual
theorem JAt.mono {H H' : Hp} (h : H.Le H') {j : J} {cs : List Value} : JAt H j cs → JAt H' j cs
 | .mk h1 h2 h3 h4 h5 h6 => .mk h1 (h2.mono h) (h3.mono h) h4 (h5.mono h) (h6.mono h)
theorem JsAt.mono {H H' : Hp} (h : H.Le H') {j : List J} {cs : List Value} : JsAt H j cs → JsAt H' j cs
 | .nil => .nil
 | .cons h1 h2 => .cons (h1.mono h) (h2.mono h)
theorem MsAt.mono {H H' : Hp} (h : H.Le H') {j : Ms} {cs : List Value} : MsAt H j cs → MsAt H' j cs
 | .nil => .nil
 | .cons h1 h2 => .cons (h1.mono h) (h2.mono h)
end
theorem JAt.length {H : Hp} {j : J} {cs : List Value} (h : JAt H j cs) : cs.length = 5 := by cases h; rfl
theorem JsAt.length {H : Hp} : ∀ {js : List J} {xs : List Value}, JsAt H js xs → xs.length = js.length * 5
 | _, _, .nil => rfl
 | _, _, .cons h1 h2 => by rw [List.length_append, h1.length, h2.length, List.length_cons]; omega
theorem MsAt.length {H : Hp} : ∀ {js : Ms} {xs : List Value}, MsAt H js xs → xs.length = js.length * 6
 | _, _, .nil => rfl
 | _, _, .cons h1 h2 => by rw [List.length_append, List.length_cons, h1.length, h2.length, List.length_cons]; omega
theorem JsAt.snoc {H : Hp} : ∀ {js : List J} {xs : List Value} {j : J} {cs : List Value}, JsAt H js xs → JAt H j cs → JsAt H (js ++ [j]) (xs ++ cs)
 | _, _, j, cs, .nil, h => by have := JsAt.cons h .nil; rwa [List.append_nil] at this
 | _, _, j, cs, .cons h1 h2, h => by rw [List.append_assoc]; exact .cons h1 (JsAt.snoc h2 h)
theorem MsAt.snoc {H : Hp} : ∀ {js : Ms} {xs : List Value} {s : ByteArray} {j : J} {cs : List Value}, MsAt H js xs → JAt H j cs → MsAt H (js ++ [(s, j)]) (xs ++ .string s :: cs)
 | _, _, s, j, cs, .nil, h => by have := MsAt.cons (s := s) h .nil; rwa [List.append_nil] at this
 | _, _, s, j, cs, .cons h1 h2, h => by rw [List.append_assoc]; exact .cons h1 (MsAt.snoc h2 h)
theorem JAt.bare {H : Hp} (k : Int) (y : Bool) (t : ByteArray) : JAt H (.mk k y t [] []) [.int .i64 k, .bool y, .string t, .slice none 0 0, .slice none 0 0] :=
 .mk rfl .nil (.nil H) rfl .nil (.nil H)
theorem MsAt.get {H : Hp} : ∀ {ms : Ms} {xs : List Value}, MsAt H ms xs → ∀ {i : Nat} {s : ByteArray} {j : J}, ms[i]? = some (s, j) → ∃ cs, JAt H j cs ∧ (xs.drop (i * 6)).take 6 = .string s :: cs
 | _, _, .nil, i, s, j, h => by simp at h
 | _, _, .cons (s := s0) (cs := cs) (xs := xs) h1 h2, i, s, j, h => by
  have hl := h1.length
  cases i with
  | zero =>
   simp at h
   obtain ⟨rfl, rfl⟩ := h
   refine ⟨cs, h1, ?_⟩
   rw [Nat.zero_mul, List.drop_zero, List.take_append_of_le_length (by simp [hl]), List.take_of_length_le (by simp [hl])]
  | succ i =>
   obtain ⟨cs', h3, h4⟩ := MsAt.get h2 (i := i) (by simpa using h)
   refine ⟨cs', h3, ?_⟩
   rw [show (i + 1) * 6 = (Value.string s0 :: cs).length + i * 6 by simp [hl]; omega, ← List.drop_drop, List.drop_left]
   exact h4
theorem JsAt.get {H : Hp} : ∀ {js : List J} {xs : List Value}, JsAt H js xs → ∀ {i : Nat} {j : J}, js[i]? = some j → ∃ cs, JAt H j cs ∧ (xs.drop (i * 5)).take 5 = cs
 | _, _, .nil, i, j, h => by simp at h
 | _, _, .cons (cs := cs) (xs := xs) h1 h2, i, j, h => by
  have hl := h1.length
  cases i with
  | zero =>
   simp at h
   subst h
   refine ⟨cs, h1, ?_⟩
   rw [Nat.zero_mul, List.drop_zero, List.take_append_of_le_length (by omega), List.take_of_length_le (by omega)]
  | succ i =>
   obtain ⟨cs', h3, h4⟩ := JsAt.get h2 (i := i) (by simpa using h)
   refine ⟨cs', h3, ?_⟩
   rw [show (i + 1) * 5 = cs.length + i * 5 by rw [hl]; omega, ← List.drop_drop, List.drop_left]
   exact h4

theorem cells_at {xs ys : List Value} {a m : Nat} (h : (xs.drop a).take m = ys) {off : Nat} (ho : off = a) : ∀ (j : Nat) (x : Value), ys[j]? = some x → xs[off + j]? = some x := by
 intro j x hx
 rw [← h, List.getElem?_take] at hx
 split at hx
 ·rw [List.getElem?_drop] at hx; rw [ho]; exact hx
 ·cases hx
theorem JAt.cells {H : Hp} {j : J} {cs : List Value} (h : JAt H j cs) : ∃ A n c B m d, cs = [.int .i64 j.kind, .bool j.yes, .string j.text, .slice A n c, .slice B m d] := by
 cases h with | mk => exact ⟨_, _, _, _, _, _, rfl⟩

inductive Res (α : Type)
 | ok (x : α) (r : List UInt8)
 | no (e : Nat) (r : List UInt8)
def Res.bind {α β : Type} (a : Res α) (f : α → List UInt8 → Res β) : Res β :=
 match a with
 | .ok x r => f x r
 | .no e r => .no e r
def pk : List UInt8 → UInt8
 | [] => 0
 | c :: _ => c
def tk (c : UInt8) : List UInt8 → Option (List UInt8)
 | [] => none
 | x :: r => if x = c then some r else none
def mustP (c : UInt8) (l : List UInt8) : Res Unit :=
 match tk c l with
 | some r => .ok () r
 | none => .no 31 l
def isBlank (c : UInt8) : Bool := c == 32 || c == 9 || c == 10 || c == 13
def blankP : List UInt8 → List UInt8
 | [] => []
 | c :: r => if isBlank c then blankP r else c :: r
def wordP : List UInt8 → List UInt8 → Res Unit
 | [], l => .ok () l
 | c :: w, l => (mustP c l).bind fun _ r => wordP w r
def isDig (c : UInt8) : Bool := decide (48 ≤ c.toNat) && decide (c.toNat ≤ 57)
def digsP : List UInt8 → List UInt8
 | [] => []
 | c :: r => if isDig c then digsP r else c :: r
def digitsP (l : List UInt8) : Res Unit := if isDig (pk l) then .ok () (digsP l) else .no 31 l
def optP (c : UInt8) (l : List UInt8) : List UInt8 := (tk c l).getD l
def tkB (c : UInt8) (l : List UInt8) : Bool := (tk c l).isSome
def num1 (l : List UInt8) : Res Unit := if tkB 48 l then .ok () (optP 48 l) else digitsP (optP 48 l)
def num2 (l : List UInt8) : Res Unit := if tkB 46 l then digitsP (optP 46 l) else .ok () (optP 46 l)
def num4 (l : List UInt8) : Res Unit := if tkB 43 l then digitsP (optP 43 l) else digitsP (optP 45 (optP 43 l))
def num3 (l : List UInt8) : Res Unit := if tkB 101 l then num4 (optP 101 l) else if tkB 69 (optP 101 l) then num4 (optP 69 (optP 101 l)) else .ok () (optP 69 (optP 101 l))
def numberP (l : List UInt8) : Res ByteArray :=
 (num1 (optP 45 l)).bind fun _ l2 => (num2 l2).bind fun _ l3 => (num3 l3).bind fun _ l4 => .ok ⟨(l.take (l.length - l4.length)).toArray⟩ l4
def hexD (c : UInt8) : Option Nat :=
 if 48 ≤ c.toNat ∧ c.toNat ≤ 57 then some (c.toNat - 48) else if 97 ≤ c.toNat ∧ c.toNat ≤ 102 then some (c.toNat - 87) else if 65 ≤ c.toNat ∧ c.toNat ≤ 70 then some (c.toNat - 55) else none
def hexP : Nat → Nat → List UInt8 → Res Nat
 | 0, n, l => .ok n l
 | k + 1, n, l => match hexD (pk l) with
  | some d => hexP k (n * 16 + d) l.tail
  | none => .no 31 l
def behindU (l : List UInt8) : Option (List UInt8) :=
 match tk 92 l with
 | none => none
 | some l2 => tk 117 l2
def unitP (fr l : List UInt8) : Res Nat := (hexP 4 0 l).bind fun a l1 =>
 if a < 55296 ∨ 57344 ≤ a then .ok a l1 else
 if 56320 ≤ a then .no 31 fr else
 match behindU l1 with
 | none => .no 31 fr
 | some l3 => (hexP 4 0 l3).bind fun b l4 => if b < 56320 ∨ 57344 ≤ b then .no 31 fr else .ok (65536 + (a - 55296) * 1024 + (b - 56320)) l4
def by1 (y : Int) : UInt8 := UInt8.ofNat (IntKind.u8.wrap y).toNat
theorem by1_eq (y : Int) : IntKind.u8.wrap y = ((by1 y).toNat : Int) := by
 have h : IntKind.u8.wrap y = y % 256 := by simp [IntKind.wrap, IntKind.bits, IntKind.signed]
 unfold by1
 rw [h, UInt8.toNat_ofNat']
 omega
def or8 (a b : Int) : Int := ((BitVec.ofInt IntKind.u8.bits a ||| BitVec.ofInt IntKind.u8.bits b).toNat : Int)
def and8 (a b : Int) : Int := ((BitVec.ofInt IntKind.u8.bits a &&& BitVec.ofInt IntKind.u8.bits b).toNat : Int)
def sh32 (x y : Int) : Int := IntKind.u8.wrap (x.fdiv (2 ^ min (Int.toNat y) IntKind.i32.bits))
def runeB (x : Int) : List UInt8 :=
 if x ≤ 127 then [by1 x] else
 if x ≤ 2047 then [by1 (or8 192 (sh32 x 6)), by1 (or8 128 (IntKind.u8.wrap (and8 (IntKind.u8.wrap x) 63)))] else
 if x ≤ 65535 then [by1 (or8 224 (sh32 x 12)), by1 (or8 128 (IntKind.u8.wrap (and8 (sh32 x 6) 63))), by1 (or8 128 (IntKind.u8.wrap (and8 (IntKind.u8.wrap x) 63)))] else
 [by1 (or8 240 (sh32 x 18)), by1 (or8 128 (IntKind.u8.wrap (and8 (sh32 x 12) 63))), by1 (or8 128 (IntKind.u8.wrap (and8 (sh32 x 6) 63))), by1 (or8 128 (IntKind.u8.wrap (and8 (IntKind.u8.wrap x) 63)))]
def shortB (c : UInt8) : Option UInt8 :=
 if c = 98 then some 8 else if c = 102 then some 12 else if c = 110 then some 10 else if c = 114 then some 13 else if c = 116 then some 9 else if c = 34 then some 34 else if c = 92 then some 92 else none
def escP (fr l : List UInt8) : Res (List UInt8) :=
 match shortB (pk l) with
 | some b => .ok [b] l.tail
 | none => match tk 47 l with
  | some r => .ok [47] r
  | none => match tk 117 l with
   | some r => (unitP fr r).bind fun n r2 => .ok (runeB (n : Int)) r2
   | none => .no 31 l
def strP : Nat → List UInt8 → List UInt8 → Res (List UInt8)
 | 0, _, l => .no 0 l
 | k + 1, b, l => match tk 34 l with
  | some r => .ok b r
  | none => match tk 92 l with
   | some r => (escP l r).bind fun x r2 => strP k (b ++ x) r2
   | none => if (pk l).toNat < 32 then .no 31 l else strP k (b ++ [pk l]) l.tail
def textP (l : List UInt8) : Res ByteArray := (mustP 34 l).bind fun _ r => (strP (r.length + 1) [] r).bind fun b r2 => .ok ⟨b.toArray⟩ r2
def rowP {α : Type} (one : α → List UInt8 → Res α) (en : UInt8) : Nat → Bool → α → List UInt8 → Res α
 | 0, _, _, l => .no 0 l
 | k + 1, first, x, l => match (if first then tk en l else none) with
  | some r => .ok x r
  | none => (one x l).bind fun y l1 => match tk en (blankP l1) with
   | some r => .ok y r
   | none => (mustP 44 (blankP l1)).bind fun _ l3 => rowP one en k false y (blankP l3)
def getP (ms : Ms) (s : ByteArray) : Option J :=
 match ms with
 | [] => none
 | (t, j) :: r => if t = s then some j else getP r s
def memP (val : List UInt8 → Res J) (ms : Ms) (l : List UInt8) : Res Ms :=
 (textP l).bind fun s l1 => match getP ms s with
  | some _ => .no 15 l
  | none => (mustP 58 (blankP l1)).bind fun _ l2 => (val (blankP l2)).bind fun j l3 => .ok (ms ++ [(s, j)]) l3
def elP (val : List UInt8 → Res J) (js : List J) (l : List UInt8) : Res (List J) := (val l).bind fun j r => .ok (js ++ [j]) r
def enterP (c : UInt8) (l : List UInt8) : Res Unit := (mustP c l).bind fun _ r => .ok () (blankP r)
def valS (deeper : Option (List UInt8 → Res J)) (l : List UInt8) : Res J :=
 let c := (pk l).toNat
 if c = 110 then (wordP [110, 117, 108, 108] l).bind fun _ r => .ok jNull r else
 if c = 116 then (wordP [116, 114, 117, 101] l).bind fun _ r => .ok (jTruth true) r else
 if c = 102 then (wordP [102, 97, 108, 115, 101] l).bind fun _ r => .ok (jTruth false) r else
 if c = 34 then (textP l).bind fun s r => .ok (jStr s) r else
 if c = 91 then match deeper with
  | none => .no 32 l
  | some val => (enterP 91 l).bind fun _ r => (rowP (elP val) 93 (r.length + 1) true [] r).bind fun js r2 => .ok (jArr js) r2
 else
 if c = 123 then match deeper with
  | none => .no 32 l
  | some val => (enterP 123 l).bind fun _ r => (rowP (memP val) 125 (r.length + 1) true [] r).bind fun ms r2 => .ok (jObj ms) r2
 else
 if c = 45 ∨ isDig (pk l) then (numberP l).bind fun s r => .ok (jNum s) r else .no 31 l
def valP : Nat → List UInt8 → Res J
 | 0 => valS none
 | d + 1 => valS (some (valP d))
def wholeP (d : Nat) (l : List UInt8) : Res J := (valP d (blankP l)).bind fun j r => match blankP r with
 | [] => .ok j []
 | c :: r2 => .no 31 (c :: r2)

def Sfx (r l : List UInt8) : Prop := ∃ p, l = p ++ r
theorem Sfx.refl (l : List UInt8) : Sfx l l := ⟨[], rfl⟩
theorem Sfx.trans {a b c : List UInt8} (h : Sfx a b) (h' : Sfx b c) : Sfx a c := by
 obtain ⟨p, rfl⟩ := h; obtain ⟨q, rfl⟩ := h'; exact ⟨q ++ p, by rw [List.append_assoc]⟩
theorem Sfx.tail {c : UInt8} {r l : List UInt8} (h : Sfx (c :: r) l) : Sfx r l := by obtain ⟨p, rfl⟩ := h; exact ⟨p ++ [c], by simp⟩
theorem Sfx.le {r l : List UInt8} (h : Sfx r l) : r.length ≤ l.length := by obtain ⟨p, rfl⟩ := h; simp
theorem Sfx.drop {r l : List UInt8} (h : Sfx r l) : l.drop (l.length - r.length) = r := by
 obtain ⟨p, rfl⟩ := h
 rw [List.length_append, Nat.add_sub_cancel, List.drop_left]
theorem blankP_sfx : ∀ l : List UInt8, Sfx (blankP l) l
 | [] => .refl _
 | c :: r => by
  unfold blankP
  split
  ·exact (blankP_sfx r).trans ⟨[c], rfl⟩
  ·exact .refl _
theorem digsP_sfx : ∀ l : List UInt8, Sfx (digsP l) l
 | [] => .refl _
 | c :: r => by
  unfold digsP
  split
  ·exact (digsP_sfx r).trans ⟨[c], rfl⟩
  ·exact .refl _
theorem tk_some {c : UInt8} {l r : List UInt8} (h : tk c l = some r) : l = c :: r := by
 cases l with
 | nil => cases h
 | cons x l =>
  simp only [tk] at h
  by_cases hx : x = c
  ·rw [if_pos hx] at h; subst hx; injection h with h; rw [h]
  ·rw [if_neg hx] at h; cases h
theorem tk_sfx {c : UInt8} {l r : List UInt8} (h : tk c l = some r) : Sfx r l := ⟨[c], tk_some h⟩
end Go.Kx.Js
namespace Go.Kx.Js
open Go.Proofs Go.Kx Go.RowKit
set_option maxRecDepth 20000
def T : Tab := [(360, { k := TK.st [(0, 9, 1), (1, 3, 1), (2, 3, 1), (3, 3, 1)], agg := true, size := 4, bytes := 40, zero := [Z.s, Z.i IntKind.i64, Z.i IntKind.i64, Z.i IntKind.i64] }), (114, { k := TK.st [(0, 3, 1), (1, 4, 1), (2, 9, 1), (3, 111, 1), (4, 112, 1)], agg := true, size := 5, bytes := 80, zero := [Z.i IntKind.i64, Z.b, Z.s, Z.sl, Z.sl] }), (313, { k := TK.st [(0, 9, 1), (1, 114, 5)], agg := true, size := 6, bytes := 96, zero := [Z.s, Z.i IntKind.i64, Z.b, Z.s, Z.sl, Z.sl] }), (362, { k := TK.st [(0, 30, 1), (1, 3, 1)], agg := true, size := 2, bytes := 16, zero := [Z.i IntKind.i64, Z.i IntKind.i64] }), (9, { k := TK.string, agg := false, size := 1, bytes := 16, zero := [Z.s] }), (4, { k := TK.bool, agg := false, size := 1, bytes := 1, zero := [Z.b] }), (94, { k := TK.slice 5, agg := false, size := 1, bytes := 24, zero := [Z.sl] }), (3, { k := TK.int IntKind.i64, agg := false, size := 1, bytes := 8, zero := [Z.i IntKind.i64] }), (30, { k := TK.int IntKind.i64, agg := false, size := 1, bytes := 8, zero := [Z.i IntKind.i64] }), (358, { k := TK.ptr 360, agg := false, size := 1, bytes := 8, zero := [Z.p] }), (289, { k := TK.func, agg := false, size := 1, bytes := 8, zero := [Z.fn] }), (1, { k := TK.func, agg := false, size := 1, bytes := 8, zero := [Z.fn] }), (5, { k := TK.int IntKind.u8, agg := false, size := 1, bytes := 1, zero := [Z.i IntKind.u8] }), (406, { k := TK.slice 410, agg := false, size := 1, bytes := 24, zero := [Z.sl] }), (410, { k := TK.st [(0, 5, 1), (1, 5, 1)], agg := true, size := 2, bytes := 2, zero := [Z.i IntKind.u8, Z.i IntKind.u8] }), (20, { k := TK.ifc, agg := false, size := 1, bytes := 16, zero := [Z.ifc] }), (112, { k := TK.slice 313, agg := false, size := 1, bytes := 24, zero := [Z.sl] }), (21, { k := TK.int IntKind.i32, agg := false, size := 1, bytes := 4, zero := [Z.i IntKind.i32] }), (111, { k := TK.slice 114, agg := false, size := 1, bytes := 24, zero := [Z.sl] }), (436, { k := TK.ptr 114, agg := false, size := 1, bytes := 8, zero := [Z.p] }), (279, { k := TK.int IntKind.u32, agg := false, size := 1, bytes := 4, zero := [Z.i IntKind.u32] })]
set_option maxRecDepth 100000 in
theorem tab : TabOk Tryz.prog T := tabOk_mk (ts := [360, 114, 313, 362, 9, 4, 94, 3, 30, 358, 289, 1, 5, 406, 410, 20, 112, 21, 111, 436, 279]) (by kernel_rfl)
theorem mixed : Tryz.prog.follows .mixedOrders = true := by kernel_rfl

def tL (s : ByteArray) : List UInt8 := s.data.toList
theorem size_eq (s : ByteArray) : s.size = (tL s).length := by show s.data.size = s.data.toList.length; rw [Array.length_toList]
def pos (s : ByteArray) (l : List UInt8) : Nat := (tL s).length - l.length
theorem pos_le (s : ByteArray) (l : List UInt8) : pos s l ≤ s.size := by rw [size_eq]; unfold pos; omega
theorem pos_nil (s : ByteArray) : pos s [] = s.size := by rw [size_eq]; rfl
theorem pos_lt {s : ByteArray} {c : UInt8} {r : List UInt8} (h : Sfx (c :: r) (tL s)) : pos s (c :: r) < s.size := by
 have := h.le
 rw [size_eq]; unfold pos
 rw [List.length_cons] at *
 omega
theorem pos_tail {s : ByteArray} {c : UInt8} {r : List UInt8} (h : Sfx (c :: r) (tL s)) : pos s r = pos s (c :: r) + 1 := by
 have := h.le
 unfold pos
 rw [List.length_cons] at *
 omega
theorem byte_pos {s : ByteArray} {c : UInt8} {r : List UInt8} (h : Sfx (c :: r) (tL s)) : byteAt s ((pos s (c :: r) : Nat) : Int) = (c.toNat : Int) := by
 have h2 := h.drop
 have h3 : (tL s)[pos s (c :: r)]? = some c := by
  have := congrArg (fun l => l[0]?) h2
  simp only [List.getElem?_drop, Nat.add_zero, List.getElem?_cons_zero] at this
  exact this
 unfold byteAt
 rw [Int.toNat_natCast, List.getD_eq_getElem?_getD]
 show (((tL s)[pos s (c :: r)]?.getD 0).toNat : Int) = _
 rw [h3]; rfl

def rdB (s : ByteArray) (l : List UInt8) (d o : Int) : SB := .box 360 [.val (.string s), .val (.int .i64 ((pos s l : Nat) : Int)), .val (.int .i64 d), .val (.int .i64 o)]
abbrev me : SV := .si (.ce (.ptr 0 0))
def faultV (e : Nat) (p : Nat) : Value := .iface 362 (.agg #[.int .i64 (e : Int), .int .i64 ((p : Nat) : Int)])
def Out {α : Type} (s : ByteArray) (d o : Int) (Rep : Hp → α → SV → Prop) (res : Res α) (e : SE) (H' : Hp) (G' : List SB) : Prop :=
 match res with
 | .ok x r => Sfx r (tL s) ∧ (∃ sv, e = .ret sv ∧ Rep H' x sv) ∧ G' = [rdB s r d o]
 | .no er r => e = .pan [{ v := faultV er (pos s r), recovered := false }] ∧ ∃ l' o', G' = [rdB s l' d o']
def RU : Hp → Unit → SV → Prop := fun _ _ sv => sv = .tu []

theorem peek_ (s : ByteArray) (l : List UInt8) (hl : Sfx l (tL s)) (d o : Int) (H : Hp) : CallO Tryz.prog 353 [me] H [rdB s l d o] fun e H' G' => e = .ret (pv (.int .u8 ((pk l).toNat : Int))) ∧ H' = H ∧ G' = [rdB s l d o] := by
 refine CallO.of_body tab Tryz.func353 rfl (nt := Tryz.f353.ntmps) rfl (by kernel_rfl) ?_
 (conv => whnf)
 refine WS.draw tab mixed (.take 0 (.take 1 (.take 2 (.take 3 (.take 4 (.take 5 (.take 6 (.take 7 (.take 8 (.take 9 .done)))))))))) (by kernel_rfl) [] ?_
 (conv => whnf)
 refine br.of (fun h1 => ?_) (fun h1 => ?_) <;> (conv => whnf)
 ·simp only [beq_iff_eq] at h1
  cases l with
  | nil => exact ⟨rfl, rfl, rfl⟩
  | cons c r => have := pos_lt hl; omega
 ·simp only [beq_eq_false_iff_ne, ne_eq] at h1
  refine WS.draw tab mixed (.take 0 (.take 1 (.take 2 (.take 3 (.take 4 (.take 5 (.take 6 (.take 7 (.take 8 (.take 9 .done)))))))))) (by kernel_rfl) [] ?_
  (conv => whnf)
  cases l with
  | nil => exact absurd (by rw [pos_nil]) h1
  | cons c r =>
   have := pos_lt hl
   refine ⟨⟨by omega, by omega⟩, ?_⟩
   have hb := byte_pos hl
   generalize byteAt s _ = v at *
   subst hb
   (conv => whnf)
   exact ⟨rfl, rfl, rfl⟩
theorem fail_ (e p : Int) (s : ByteArray) (l : List UInt8) (d o : Int) (H : Hp) : CallO Tryz.prog 359 [me, pv (.int .i64 e), pv (.int .i64 p)] H [rdB s l d o] fun x H' G' => x = .pan [{ v := .iface 362 (.agg #[.int .i64 e, .int .i64 p]), recovered := false }] ∧ H' = H ∧ G' = [rdB s l d o] := by
 refine CallO.of_body tab Tryz.func359 rfl (nt := Tryz.f359.ntmps) rfl (by kernel_rfl) ?_
 (conv => whnf)
 exact ⟨rfl, rfl, rfl⟩
theorem stop_ (s : ByteArray) (l : List UInt8) (d o : Int) (H : Hp) : CallO Tryz.prog 328 [me] H [rdB s l d o] fun x H' G' => x = .pan [{ v := faultV 31 (pos s l), recovered := false }] ∧ H' = H ∧ G' = [rdB s l d o] := by
 refine CallO.of_body tab Tryz.func328 rfl (nt := Tryz.f328.ntmps) rfl (by kernel_rfl) ?_
 (conv => whnf)
 refine ⟨⟨_, Tryz.func359, rfl, by kernel_rfl⟩, CallS.use (fail_ 31 (pos s l : Nat) s l d o H) [0] rfl rfl ⟨rfl, trivial⟩ ?_⟩
 rintro e H' G' hle ⟨rfl, rfl, rfl⟩
 (conv => whnf)
 exact ⟨rfl, rfl, rfl⟩
theorem tk_self (c : UInt8) (r : List UInt8) : tk c (c :: r) = some r := by simp only [tk, if_true]
theorem tk_none {c : UInt8} {l : List UInt8} (h : (pk l) ≠ c) : tk c l = none := by
 cases l with
 | nil => rfl
 | cons x r => exact if_neg (show ¬ x = c from h)
theorem tk_pk {c : UInt8} {l : List UInt8} (hc : c ≠ 0) (h : pk l = c) : l = c :: l.tail := by
 cases l with
 | nil => exact absurd h.symm hc
 | cons x r => rw [show x = c from h]; rfl
theorem pos_int {s : ByteArray} {c : UInt8} {r : List UInt8} (h : Sfx (c :: r) (tL s)) : ((pos s (c :: r) : Nat) : Int) + 1 = ((pos s r : Nat) : Int) := by rw [pos_tail h]; rfl
theorem next_ (c : UInt8) (hc : c ≠ 0) (s : ByteArray) (l : List UInt8) (hl : Sfx l (tL s)) (hs : s.size ≤ 1000000) (d o : Int) (H : Hp) : CallO Tryz.prog 342 [me, pv (.int .u8 (c.toNat : Int))] H [rdB s l d o] fun e H' G' => H' = H ∧
  match tk c l with
  | some r => Sfx r (tL s) ∧ e = .ret (pv (.bool true)) ∧ G' = [rdB s r d o]
  | none => e = .ret (pv (.bool false)) ∧ G' = [rdB s l d o] := by
 refine CallO.of_body tab Tryz.func342 rfl (nt := Tryz.f342.ntmps) rfl (by kernel_rfl) ?_
 (conv => whnf)
 refine ⟨⟨_, Tryz.func353, rfl, by kernel_rfl⟩, CallS.use (peek_ s l hl d o H) [0] rfl rfl ⟨rfl, trivial⟩ ?_⟩
 rintro e H' G' hle ⟨rfl, rfl, rfl⟩
 (conv => whnf)
 refine br.of (fun h1 => ?_) (fun h1 => ?_) <;> (conv => whnf)
 ·simp only [bne_iff_ne, ne_eq] at h1
  have : tk c l = none := by
   cases l with
   | nil => rfl
   | cons x r =>
    simp only [tk]
    rw [if_neg]
    intro hx
    subst hx
    exact h1 rfl
  rw [this]
  exact ⟨rfl, rfl, rfl⟩
 ·simp only [bne_eq_false_iff_eq] at h1
  cases l with
  | nil => exact absurd (UInt8.toNat_inj.1 (show c.toNat = (0 : UInt8).toNat by simp only [pk] at h1; omega)) hc
  | cons x r =>
   have hx : x = c := UInt8.toNat_inj.1 (by simp only [pk] at h1; omega)
   subst hx
   have hp := pos_tail hl
   have hq := pos_lt hl
   rw [wrap64 (by omega) (by omega)]
   rw [tk_self]
   refine ⟨rfl, hl.tail, rfl, ?_⟩
   show [SB.box _ [_, SC.val (.int .i64 _), _, _]] = [SB.box _ [_, SC.val (.int .i64 _), _, _]]
   rw [hp]; rfl
theorem rd_step {s : ByteArray} {c : UInt8} {r : List UInt8} (h : Sfx (c :: r) (tL s)) (hs : s.size ≤ 1000000) (d o : Int) : SB.box 360 [.val (.string s), .val (.int .i64 (IntKind.i64.wrap (((pos s (c :: r) : Nat) : Int) + 1))), .val (.int .i64 d), .val (.int .i64 o)] = rdB s r d o := by
 have hq := pos_lt h
 rw [wrap64 (by omega) (by omega), pos_int h]; rfl
theorem must_ (c : UInt8) (hc : c ≠ 0) (s : ByteArray) (l : List UInt8) (hl : Sfx l (tL s)) (hs : s.size ≤ 1000000) (d o : Int) (H : Hp) : CallO Tryz.prog 383 [me, pv (.int .u8 (c.toNat : Int))] H [rdB s l d o] fun e H' G' => H' = H ∧ Out s d o RU (mustP c l) e H' G' := by
 refine CallO.of_body tab Tryz.func383 rfl (nt := Tryz.f383.ntmps) rfl (by kernel_rfl) ?_
 (conv => whnf)
 refine ⟨⟨_, Tryz.func342, rfl, by kernel_rfl⟩, CallS.use (next_ c hc s l hl hs d o H) [0] rfl rfl ⟨rfl, trivial⟩ ?_⟩
 rintro e H' G' hle ⟨rfl, h⟩
 unfold mustP
 cases ht : tk c l with
 | some r =>
  rw [ht] at h
  obtain ⟨h1, rfl, rfl⟩ := h
  (conv => whnf)
  exact ⟨rfl, h1, ⟨_, rfl, rfl⟩, rfl⟩
 | none =>
  rw [ht] at h
  obtain ⟨rfl, rfl⟩ := h
  (conv => whnf)
  refine ⟨⟨_, Tryz.func328, rfl, by kernel_rfl⟩, CallS.use (stop_ s l d o _) [0] rfl rfl ⟨rfl, trivial⟩ ?_⟩
  rintro e H2 G' hle2 ⟨rfl, rfl, rfl⟩
  (conv => whnf)
  exact ⟨rfl, rfl, l, o, rfl⟩
theorem blankP_yes {c : UInt8} {r : List UInt8} (h : isBlank c = true) : blankP (c :: r) = blankP r := if_pos h
theorem blankP_no {r : List UInt8} (h : isBlank (pk r) = false) : blankP r = r := by
 cases r with
 | nil => rfl
 | cons c r => exact if_neg (by rw [show isBlank c = false from h]; exact Bool.false_ne_true)
theorem digsP_yes {c : UInt8} {r : List UInt8} (h : isDig c = true) : digsP (c :: r) = digsP r := if_pos h
theorem digsP_no {r : List UInt8} (h : isDig (pk r) = false) : digsP r = r := by
 cases r with
 | nil => rfl
 | cons c r => exact if_neg (by rw [show isDig c = false from h]; exact Bool.false_ne_true)
def blankS : List UInt8 := [32, 9, 10, 13]
theorem ix_blank (c : UInt8) : decide (ixB blankS c ≥ 0) = isBlank c := by
 have h : ∀ n : Fin 256, decide (ixB blankS (UInt8.ofNat n.val) ≥ 0) = isBlank (UInt8.ofNat n.val) := by decide +kernel
 have := h ⟨c.toNat, c.toNat_lt⟩
 simpa using this
theorem blank_ (s : ByteArray) (l : List UInt8) (hl : Sfx l (tL s)) (hs : s.size ≤ 1000000) (d o : Int) (H : Hp) : CallO Tryz.prog 326 [me] H [rdB s l d o] fun e H' G' => H' = H ∧ e = .ret (.tu []) ∧ G' = [rdB s (blankP l) d o] := by
 refine CallO.of_body tab Tryz.func326 rfl (nt := Tryz.f326.ntmps) rfl (by kernel_rfl) ?_
 (conv => whnf)
 refine WS.loop (fun k F H2 G => ∃ r, Sfx r (tL s) ∧ blankP r = blankP l ∧ k = r.length ∧ F = [(0, me)] ∧ H2 = H ∧ G = [rdB s r d o]) (l.length + 1) ?_ ?_
 ·refine ⟨l.length, by omega, _, _, [0], ⟨l, hl, rfl, rfl, rfl, rfl, rfl⟩, ?_⟩
  exact ⟨rfl, ⟨rfl, trivial⟩, rfl, trivial⟩
 rintro k F H2 G hle ⟨r, hr, hb, rfl, rfl, rfl, rfl⟩
 refine codeL.go tab ?_
 (conv => whnf)
 refine ⟨⟨_, Tryz.func353, rfl, by kernel_rfl⟩, CallS.use (peek_ s r hr d o _) [0] rfl rfl ⟨rfl, trivial⟩ ?_⟩
 rintro e H' G' hle ⟨rfl, rfl, rfl⟩
 (conv => whnf)
 refine br.of (fun h1 => ?_) (fun h1 => ?_) <;> (conv => whnf)
 ·refine ⟨⟨_, Tryz.func353, rfl, by kernel_rfl⟩, CallS.use (peek_ s r hr d o _) [0] rfl rfl ⟨rfl, trivial⟩ ?_⟩
  rintro e H' G' hle ⟨rfl, rfl, rfl⟩
  (conv => whnf)
  refine ⟨⟨_, Tryz.func189, rfl, by kernel_rfl⟩, CallS.use (indexByte ⟨blankS.toArray⟩ (pk r) _ []) [] rfl rfl trivial ?_⟩
  rintro e H' G' hle ⟨rfl, rfl, rfl⟩
  (conv => whnf)
  refine br.of (fun h2 => ?_) (fun h2 => ?_) <;> (conv => whnf)
  all_goals (have h2 := (ix_blank (pk r)).symm.trans h2)
  ·cases r with
   | nil => cases h2
   | cons c r =>
    rw [rd_step hr hs]
    refine ⟨r.length, by rw [List.length_cons]; omega, _, _, [0], ⟨r, hr.tail, ?_, rfl, rfl, rfl, rfl⟩, ?_⟩
    ·rw [← hb]; exact (blankP_yes h2).symm
    ·exact ⟨rfl, ⟨rfl, trivial⟩, rfl, trivial⟩
  ·rw [← hb, blankP_no h2]
   exact ⟨rfl, rfl, rfl⟩
 ·simp only [bne_eq_false_iff_eq] at h1
  have h2 : pk r = 0 := UInt8.toNat_inj.1 (by show (pk r).toNat = 0; omega)
  rw [← hb, blankP_no (by rw [h2]; rfl)]
  exact ⟨rfl, rfl, rfl⟩
theorem optP_sfx {c : UInt8} {l t : List UInt8} (h : Sfx l t) : Sfx (optP c l) t := by
 unfold optP
 cases ht : tk c l with
 | none => exact h
 | some r => exact (tk_sfx ht).trans h
theorem nextB (c : UInt8) (hc : c ≠ 0) (s : ByteArray) (l : List UInt8) (hl : Sfx l (tL s)) (hs : s.size ≤ 1000000) (d o : Int) (H : Hp) : CallO Tryz.prog 342 [me, pv (.int .u8 (c.toNat : Int))] H [rdB s l d o] fun e H' G' => H' = H ∧
  e = .ret (pv (.bool (tkB c l))) ∧ G' = [rdB s (optP c l) d o] := by
 refine (next_ c hc s l hl hs d o H).mono ?_
 rintro e H' G' hle ⟨rfl, h⟩
 refine ⟨rfl, ?_⟩
 unfold tkB optP
 cases ht : tk c l with
 | none => rw [ht] at h; exact h
 | some r => rw [ht] at h; exact h.2
theorem digit_ (c : UInt8) (H : Hp) : CallO Tryz.prog 358 [pv (.int .u8 (c.toNat : Int))] H [] fun e H' G' => H' = H ∧ e = .ret (pv (.bool (isDig c))) ∧ G' = [] := by
 refine CallO.of_body tab Tryz.func358 rfl (nt := Tryz.f358.ntmps) rfl (by kernel_rfl) ?_
 (conv => whnf)
 refine br.of (fun h1 => ?_) (fun h1 => ?_) <;> (conv => whnf)
 ·simp only [ge_iff_le, decide_eq_true_eq] at h1
  refine ⟨rfl, ?_, rfl⟩
  show SE.ret (pv (.bool _)) = SE.ret (pv (.bool _))
  unfold isDig
  rw [decide_eq_true (show 48 ≤ c.toNat by omega), Bool.true_and]
  congr 3
  exact decide_eq_decide.2 (by omega)
 ·simp only [ge_iff_le, decide_eq_false_iff_not] at h1
  refine ⟨rfl, ?_, rfl⟩
  show SE.ret (pv (.bool _)) = SE.ret (pv (.bool _))
  unfold isDig
  rw [decide_eq_false (show ¬ 48 ≤ c.toNat by omega), Bool.false_and]
theorem digits_ (s : ByteArray) (l : List UInt8) (hl : Sfx l (tL s)) (hs : s.size ≤ 1000000) (d o : Int) (H : Hp) : CallO Tryz.prog 343 [me] H [rdB s l d o] fun e H' G' => H' = H ∧ Out s d o RU (digitsP l) e H' G' := by
 refine CallO.of_body tab Tryz.func343 rfl (nt := Tryz.f343.ntmps) rfl (by kernel_rfl) ?_
 (conv => whnf)
 refine ⟨⟨_, Tryz.func353, rfl, by kernel_rfl⟩, CallS.use (peek_ s l hl d o H) [0] rfl rfl ⟨rfl, trivial⟩ ?_⟩
 rintro e H' G' hle ⟨rfl, rfl, rfl⟩
 (conv => whnf)
 refine ⟨⟨_, Tryz.func358, rfl, by kernel_rfl⟩, CallS.use (digit_ (pk l) _) [] rfl rfl trivial ?_⟩
 rintro e H' G' hle ⟨rfl, rfl, rfl⟩
 (conv => whnf)
 unfold digitsP
 cases hd : isDig (pk l) <;> (conv => whnf)
 ·refine ⟨⟨_, Tryz.func328, rfl, by kernel_rfl⟩, CallS.use (stop_ s l d o _) [0] rfl rfl ⟨rfl, trivial⟩ ?_⟩
  rintro e H2 G' hle2 ⟨rfl, rfl, rfl⟩
  (conv => whnf)
  exact ⟨rfl, rfl, l, o, rfl⟩
 ·refine WS.loop (fun k F H2 G => ∃ r, Sfx r (tL s) ∧ digsP r = digsP l ∧ k = r.length ∧ F = [(0, me)] ∧ H2 = H' ∧ G = [rdB s r d o]) (l.length + 1) ?_ ?_
  ·refine ⟨l.length, by omega, _, _, [0], ⟨l, hl, rfl, rfl, rfl, rfl, rfl⟩, ?_⟩
   exact ⟨rfl, ⟨rfl, trivial⟩, rfl, trivial⟩
  rintro k F H2 G hle ⟨r, hr, hb, rfl, rfl, rfl, rfl⟩
  refine codeL.go tab ?_
  (conv => whnf)
  refine ⟨⟨_, Tryz.func353, rfl, by kernel_rfl⟩, CallS.use (peek_ s r hr d o _) [0] rfl rfl ⟨rfl, trivial⟩ ?_⟩
  rintro e H' G' hle ⟨rfl, rfl, rfl⟩
  (conv => whnf)
  refine ⟨⟨_, Tryz.func358, rfl, by kernel_rfl⟩, CallS.use (digit_ (pk r) _) [] rfl rfl trivial ?_⟩
  rintro e H' G' hle ⟨rfl, rfl, rfl⟩
  (conv => whnf)
  cases h2 : isDig (pk r) <;> (conv => whnf)
  ·refine ⟨rfl, ?_⟩
   show Out s d o RU (Res.ok () (digsP l)) _ _ _
   rw [← hb, digsP_no h2]
   exact ⟨hr, ⟨_, rfl, rfl⟩, rfl⟩
  ·cases r with
   | nil => cases h2
   | cons c r =>
    rw [rd_step hr hs]
    refine ⟨r.length, by rw [List.length_cons]; omega, _, _, [0], ⟨r, hr.tail, ?_, rfl, rfl, rfl, rfl⟩, ?_⟩
    ·rw [← hb]; exact (digsP_yes h2).symm
    ·exact ⟨rfl, ⟨rfl, trivial⟩, rfl, trivial⟩
theorem word_ (w : ByteArray) (hw : w.data.toList.all (fun c => c != 0) = true) (hw2 : w.size ≤ 100) (s : ByteArray) (l : List UInt8) (hl : Sfx l (tL s)) (hs : s.size ≤ 1000000) (d o : Int) (H : Hp) : CallO Tryz.prog 354 [me, pv (.string w)] H [rdB s l d o] fun e H' G' => H' = H ∧ Out s d o RU (wordP w.data.toList l) e H' G' := by
 refine CallO.of_body tab Tryz.func354 rfl (nt := Tryz.f354.ntmps) rfl (by kernel_rfl) ?_
 (conv => whnf)
 refine WS.loop (fun k F H2 G => ∃ (i : Nat) (r : List UInt8), Sfx r (tL s) ∧ i ≤ w.size ∧ wordP (w.data.toList.drop i) r = wordP w.data.toList l ∧ k = w.size - i ∧ F = [(0, me), (1, pv (.string w)), (6, pv (.int .i64 w.size)), (7, pv (.int .i64 i))] ∧ H2 = H ∧ G = [rdB s r d o]) (w.size + 1) ?_ ?_
 ·refine ⟨w.size, by omega, _, _, [0], ⟨0, l, hl, by omega, rfl, rfl, rfl, rfl, rfl⟩, ?_⟩
  exact ⟨rfl, ⟨rfl, trivial⟩, rfl, rfl, rfl, rfl, trivial⟩
 rintro k F H2 G hle ⟨i, r, hr, hi, hb, rfl, rfl, rfl, rfl⟩
 refine codeL.go tab ?_
 (conv => whnf)
 refine br.of (fun h1 => ?_) (fun h1 => ?_) <;> (conv => whnf)
 ·simp only [decide_eq_true_eq] at h1
  have hi2 : i < w.data.toList.length := by have := size_eq w; unfold tL at this; omega
  refine ⟨⟨by omega, by omega⟩, ?_⟩
  have hv : byteAt w (i : Int) = ((w.data.toList[i]).toNat : Int) := by
   unfold byteAt
   rw [Int.toNat_natCast, List.getD_eq_getElem?_getD, List.getElem?_eq_getElem hi2]; rfl
  generalize byteAt w (i : Int) = v at *
  subst hv
  (conv => whnf)
  have hc : w.data.toList[i] ≠ 0 := by
   have := List.all_eq_true.1 hw _ (List.getElem_mem hi2)
   simpa using this
  have hdr : w.data.toList.drop i = w.data.toList[i] :: w.data.toList.drop (i + 1) := List.drop_eq_getElem_cons hi2
  refine ⟨⟨_, Tryz.func383, rfl, by kernel_rfl⟩, CallS.use (must_ _ hc s r hr hs d o _) [0] rfl rfl ⟨rfl, trivial⟩ ?_⟩
  rintro e H' G' hle ⟨rfl, hout⟩
  rw [hdr] at hb
  simp only [wordP] at hb
  cases hm : mustP w.data.toList[i] r with
  | no er r2 =>
   rw [hm] at hout hb
   obtain ⟨rfl, l2, o2, rfl⟩ := hout
   (conv => whnf)
   refine ⟨rfl, ?_⟩
   rw [← hb]
   exact ⟨rfl, l2, o2, rfl⟩
  | ok x r2 =>
   rw [hm] at hout hb
   obtain ⟨hr2, ⟨sv, rfl, rfl⟩, rfl⟩ := hout
   (conv => whnf)
   rw [wrap64 (by omega) (by omega)]
   refine ⟨w.size - (i + 1), by omega, _, _, [0], ⟨i + 1, r2, hr2, by omega, hb, rfl, rfl, rfl, rfl⟩, ?_⟩
   exact ⟨rfl, ⟨rfl, trivial⟩, rfl, rfl, rfl, rfl, trivial⟩
 ·simp only [decide_eq_false_iff_not] at h1
  refine ⟨rfl, ?_⟩
  rw [← hb, List.drop_of_length_le (by have := size_eq w; unfold tL at this; omega)]
  exact ⟨hr, ⟨_, rfl, rfl⟩, rfl⟩
end Go.Kx.Js
namespace Go.Kx.Js
open Go.Proofs Go.Kx Go.RowKit
set_option maxRecDepth 20000
theorem wrapU8 {x : Int} (h : 0 ≤ x) (h' : x < 256) : IntKind.u8.wrap x = x := by
 show x.emod 256 = x
 exact Int.emod_eq_of_lt h h'
theorem wrap32 {x : Int} (h : -2147483648 ≤ x) (h' : x < 2147483648) : IntKind.i32.wrap x = x := by
 show (if (true && decide (x.emod 4294967296 ≥ 2147483648)) = true then x.emod 4294967296 - 4294967296 else x.emod 4294967296) = x
 have : x.emod 4294967296 = x % 4294967296 := rfl
 simp only [Bool.true_and, decide_eq_true_eq, this]
 split <;> omega
theorem or32 {a b : Nat} (ha : a < 4294967296) (hb : b < 4294967296) : (BitVec.ofInt IntKind.i32.bits (a : Int) ||| BitVec.ofInt IntKind.i32.bits (b : Int)).toNat = a ||| b := by
 show (BitVec.ofInt 32 (a : Int) ||| BitVec.ofInt 32 (b : Int)).toNat = a ||| b
 rw [BitVec.toNat_or, BitVec.ofInt_natCast, BitVec.ofInt_natCast, BitVec.toNat_ofNat, BitVec.toNat_ofNat, Nat.mod_eq_of_lt ha, Nat.mod_eq_of_lt hb]
theorem or16 {n d : Nat} (h : d < 16) : n * 16 ||| d = n * 16 + d := by
 have := Nat.shiftLeft_add_eq_or_of_lt (i := 4) (b := d) h n
 rw [Nat.shiftLeft_eq] at this
 exact this.symm
def lowerS : List UInt8 := [48, 49, 50, 51, 52, 53, 54, 55, 56, 57, 97, 98, 99, 100, 101, 102]
def lowC (c : UInt8) : UInt8 := if 65 ≤ c.toNat ∧ c.toNat ≤ 70 then c + 32 else c
theorem ix_hex (c : UInt8) : ixB lowerS (lowC c) = match hexD c with
  | some d => (d : Int)
  | none => -1 := by
 have h : ∀ n : Fin 256, ixB lowerS (lowC (UInt8.ofNat n.val)) = (match hexD (UInt8.ofNat n.val) with
  | some d => (d : Int)
  | none => -1) := by decide +kernel
 have := h ⟨c.toNat, c.toNat_lt⟩
 simpa using this
theorem lowC_yes {c : UInt8} (h1 : 65 ≤ c.toNat) (h2 : c.toNat ≤ 70) : IntKind.u8.wrap ((c.toNat : Int) + 32) = ((lowC c).toNat : Int) := by
 unfold lowC
 rw [if_pos ⟨h1, h2⟩, UInt8.toNat_add]
 have : (32 : UInt8).toNat = 32 := rfl
 rw [wrapU8 (by omega) (by omega)]
 omega
theorem lowC_no {c : UInt8} (h : ¬ (65 ≤ c.toNat ∧ c.toNat ≤ 70)) : (c.toNat : Int) = ((lowC c).toNat : Int) := by
 unfold lowC
 rw [if_neg h]
theorem hexD_lt {c : UInt8} {d : Nat} (h : hexD c = some d) : d < 16 := by
 unfold hexD at h
 split at h
 ·injection h; omega
 ·split at h
  ·injection h; omega
  ·split at h
   ·injection h; omega
   ·cases h
theorem hexP_some {k n d : Nat} {l : List UInt8} (h : hexD (pk l) = some d) : hexP (k + 1) n l = hexP k (n * 16 + d) l.tail := by
 show (match hexD (pk l) with | some d => hexP k (n * 16 + d) l.tail | none => .no 31 l) = _
 rw [h]
theorem hexP_none {k n : Nat} {l : List UInt8} (h : hexD (pk l) = none) : hexP (k + 1) n l = .no 31 l := by
 show (match hexD (pk l) with | some d => hexP k (n * 16 + d) l.tail | none => .no 31 l) = _
 rw [h]
theorem hexD_pk {l : List UInt8} {d : Nat} (h : hexD (pk l) = some d) : l = pk l :: l.tail := by
 cases l with
 | nil => cases h
 | cons c r => rfl
theorem hex_ (s : ByteArray) (l : List UInt8) (hl : Sfx l (tL s)) (hs : s.size ≤ 1000000) (d o : Int) (H : Hp) : CallO Tryz.prog 402 [me] H [rdB s l d o] fun e H' G' => H' = H ∧ Out s d o (fun (_ : Hp) (n : Nat) (sv : SV) => n < 65536 ∧ sv = pv (.int .i32 (n : Int))) (hexP 4 0 l) e H' G' := by
 refine CallO.of_body tab Tryz.func402 rfl (nt := Tryz.f402.ntmps) rfl (by kernel_rfl) ?_
 (conv => whnf)
 refine WS.loop (fun k F H2 G => ∃ (i n : Nat) (r : List UInt8), Sfx r (tL s) ∧ i ≤ 4 ∧ n < 16 ^ i ∧ hexP (4 - i) n r = hexP 4 0 l ∧ k = 4 - i ∧ F = [(0, me), (3, pv (.int .i32 n)), (6, pv (.int .i64 i))] ∧ H2 = H ∧ G = [rdB s r d o]) 5 ?_ ?_
 ·refine ⟨4, by omega, _, _, [0], ⟨0, 0, l, hl, by omega, by decide, rfl, rfl, rfl, rfl, rfl⟩, ?_⟩
  exact ⟨rfl, ⟨rfl, trivial⟩, rfl, rfl, rfl, trivial⟩
 rintro k F H2 G hle ⟨i, n, r, hr, hi, hn, hb, rfl, rfl, rfl, rfl⟩
 refine codeL.go tab ?_
 (conv => whnf)
 refine br.of (fun h1 => ?_) (fun h1 => ?_) <;> (conv => whnf)
 ·simp only [decide_eq_true_eq] at h1
  refine ⟨⟨_, Tryz.func353, rfl, by kernel_rfl⟩, CallS.use (peek_ s r hr d o _) [0] rfl rfl ⟨rfl, trivial⟩ ?_⟩
  rintro e H' G' hle ⟨rfl, rfl, rfl⟩
  (conv => whnf)
  refine br.of (fun h2 => ?_) (fun h2 => ?_) <;> (conv => whnf)
  any_goals (refine br.of (fun h3 => ?_) (fun h3 => ?_) <;> (conv => whnf))
  all_goals (first
   | (rw [lowC_yes (c := pk r) (by have := of_decide_eq_true h2; omega) (by have := of_decide_eq_true h3; omega)]; clear h2 h3)
   | (rw [lowC_no (c := pk r) (by have := of_decide_eq_false h3; omega)]; clear h2 h3)
   | (rw [lowC_no (c := pk r) (by have := of_decide_eq_false h2; omega)]; clear h2))
  all_goals
   refine ⟨⟨_, Tryz.func189, rfl, by kernel_rfl⟩, CallS.use (indexByte ⟨lowerS.toArray⟩ (lowC (pk r)) _ []) [] rfl rfl trivial ?_⟩
   rintro e H' G' hle ⟨rfl, rfl, rfl⟩
   (conv => whnf)
   have hix : ixB (⟨lowerS.toArray⟩ : ByteArray).data.toList (lowC (pk r)) = _ := ix_hex (pk r)
   have h4 : 4 - i = (4 - (i + 1)) + 1 := by omega
   rw [h4] at hb
   refine br.of (fun h5 => ?_) (fun h5 => ?_) <;> (conv => whnf)
   ·cases hx : hexD (pk r) with
    | some dd =>
     rw [hx] at hix
     change _ = (dd : Int) at hix
     have h5 := of_decide_eq_true h5
     omega
    | none =>
     rw [hexP_none hx] at hb
     refine ⟨⟨_, Tryz.func328, rfl, by kernel_rfl⟩, CallS.use (stop_ s r d o _) [0] rfl rfl ⟨rfl, trivial⟩ ?_⟩
     rintro e H2 G' hle2 ⟨rfl, rfl, rfl⟩
     (conv => whnf)
     rw [← hb]
     exact ⟨rfl, rfl, r, o, rfl⟩
   ·have h5 := of_decide_eq_false h5
    cases hx : hexD (pk r) with
    | none =>
     rw [hx] at hix
     change _ = (-1 : Int) at hix
     omega
    | some dd =>
     rw [hx] at hix
     change _ = (dd : Int) at hix
     rw [hexP_some hx] at hb
     have hdd := hexD_lt hx
     have hn2 : n < 4096 := Nat.lt_of_lt_of_le hn (Nat.pow_le_pow_right (by decide : 16 > 0) (by omega : i ≤ 3))
     refine ⟨by decide, ?_⟩
     (conv => whnf)
     rw [hix, wrap32 (x := (dd : Int)) (by omega) (by omega), wrap32 (x := (n : Int) * 2 ^ min (Int.toNat 4) IntKind.i32.bits) (by show _ ≤ (n : Int) * 16; omega) (by show (n : Int) * 16 < _; omega), show (n : Int) * 2 ^ min (Int.toNat 4) IntKind.i32.bits = ((n * 16 : Nat) : Int) by show (n : Int) * 16 = _; omega, or32 (by omega) (by omega), or16 hdd, wrap32 (by omega) (by omega), wrap64 (x := (i : Int) + 1) (by omega) (by omega)]
     have hr2 := hexD_pk hx
     rw [hr2] at hr ⊢
     rw [rd_step hr hs]
     refine ⟨4 - (i + 1), by omega, _, _, [0], ⟨i + 1, n * 16 + dd, r.tail, hr.tail, by omega, by rw [Nat.pow_succ]; omega, hb, rfl, rfl, rfl, rfl⟩, ?_⟩
     exact ⟨rfl, ⟨rfl, trivial⟩, rfl, rfl, rfl, trivial⟩
 ·simp only [decide_eq_false_iff_not] at h1
  obtain rfl : i = 4 := by omega
  refine ⟨rfl, ?_⟩
  rw [← hb]
  exact ⟨hr, ⟨_, rfl, by omega, rfl⟩, rfl⟩
end Go.Kx.Js
namespace Go.Kx.Js
open Go.Proofs Go.Kx Go.RowKit
set_option maxRecDepth 20000
theorem wrapU32 {x : Int} (h : 0 ≤ x) (h' : x < 4294967296) : IntKind.u32.wrap x = x := by
 show x.emod 4294967296 = x
 exact Int.emod_eq_of_lt h h'
theorem ones_u8 : ∀ (l : List Int), ∀ u ∈ l.map (Value.int .u8), u.oneCell' = true := by
 intro l u hu
 obtain ⟨x, _, rfl⟩ := List.mem_map.1 hu
 rfl
theorem row_eq {t : TypeId} {n m : Nat} {xs ys : List Value} (h : xs = ys) (h2 : n = m) : SB.row t 1 n xs = SB.row t 1 m ys := by rw [h, h2]
theorem cells2 (bs : List UInt8) (a b : Int) : bCells bs ++ [.int .u8 (IntKind.u8.wrap a), .int .u8 (IntKind.u8.wrap b)] = bCells (bs ++ [by1 a, by1 b]) := by
 rw [by1_eq, by1_eq, ← bCells_append]; rfl
theorem cells3 (bs : List UInt8) (a b c : Int) : bCells bs ++ [.int .u8 (IntKind.u8.wrap a), .int .u8 (IntKind.u8.wrap b), .int .u8 (IntKind.u8.wrap c)] = bCells (bs ++ [by1 a, by1 b, by1 c]) := by
 rw [by1_eq, by1_eq, by1_eq, ← bCells_append]; rfl
theorem cells4 (bs : List UInt8) (a b c d : Int) : bCells bs ++ [.int .u8 (IntKind.u8.wrap a), .int .u8 (IntKind.u8.wrap b), .int .u8 (IntKind.u8.wrap c), .int .u8 (IntKind.u8.wrap d)] = bCells (bs ++ [by1 a, by1 b, by1 c, by1 d]) := by
 rw [by1_eq, by1_eq, by1_eq, by1_eq, ← bCells_append]; rfl
theorem nonAscii (x : Int) (h0 : 128 ≤ x) (hr : x < 1114112) (hsur : x < 55296 ∨ 57344 ≤ x) (bs : List UInt8) (hn : bs.length ≤ 1000000) (H : Hp) : CallO Tryz.prog 401 [.si (.ce (.self 0)), pv (.int .i32 x)] H [.row 5 1 bs.length (bCells bs)] fun e _ G' =>
  e = .ret (.si (.ce (.self 1))) ∧ G' = [.dead, .row 5 1 (bs ++ runeB x).length (bCells (bs ++ runeB x))] := by
 refine CallO.of_body tab Tryz.func401 rfl (nt := Tryz.f401.ntmps) rfl (by kernel_rfl) ?_
 (conv => whnf)
 rw [wrapU32 (by omega) (by omega)]
 refine br.of (fun h1 => ?_) (fun h1 => ?_) <;> (conv => whnf)
 ·have h1 := of_decide_eq_true h1
  refine ⟨by decide, ?_⟩
  (conv => whnf)
  refine ⟨by decide, .inl ?_⟩
  intro g H2 hle hrd
  (conv => whnf)
  refine ⟨_, rfl, hrd, ones_u8 [_, _], ?_⟩
  (conv => whnf)
  refine ⟨by show _ * 2 ≤ _; omega, ?_⟩
  (conv => whnf)
  refine ⟨rfl, ?_⟩
  have e : runeB x = [by1 (or8 192 (sh32 x 6)), by1 (or8 128 (IntKind.u8.wrap (and8 (IntKind.u8.wrap x) 63)))] := by unfold runeB; rw [if_neg (by omega), if_pos h1]
  rw [e]
  exact congrArg (fun b => [SB.dead, b]) (row_eq (cells2 bs _ _) (by simp))
 ·have h1 := of_decide_eq_false h1
  have go3 : ∀ {G' : List SB}, x ≤ 65535 → G' = [SB.dead, .row 5 1 (bs.length + 3) (bCells bs ++ [.int .u8 (IntKind.u8.wrap (or8 224 (sh32 x 12))), .int .u8 (IntKind.u8.wrap (or8 128 (IntKind.u8.wrap (and8 (sh32 x 6) 63)))), .int .u8 (IntKind.u8.wrap (or8 128 (IntKind.u8.wrap (and8 (IntKind.u8.wrap x) 63))))])] → G' = [.dead, .row 5 1 (bs ++ runeB x).length (bCells (bs ++ runeB x))] := by
   intro G' hx hG
   have e : runeB x = [by1 (or8 224 (sh32 x 12)), by1 (or8 128 (IntKind.u8.wrap (and8 (sh32 x 6) 63))), by1 (or8 128 (IntKind.u8.wrap (and8 (IntKind.u8.wrap x) 63)))] := by unfold runeB; rw [if_neg (by omega), if_neg h1, if_pos hx]
   rw [e, hG]
   exact congrArg (fun b => [SB.dead, b]) (row_eq (cells3 bs _ _ _) (by simp))
  refine br.of (fun h2 => ?_) (fun h2 => ?_) <;> (conv => whnf)
  ·rw [h2]
   (conv => whnf)
   have h2 := of_decide_eq_true h2
   refine ⟨by decide, ?_⟩
   (conv => whnf)
   refine ⟨by decide, ?_⟩
   (conv => whnf)
   refine ⟨by decide, .inl ?_⟩
   intro g H2 hle hrd
   (conv => whnf)
   refine ⟨_, rfl, hrd, ones_u8 [_, _, _], ?_⟩
   (conv => whnf)
   refine ⟨by show _ * 2 ≤ _; omega, ?_⟩
   (conv => whnf)
   exact ⟨rfl, go3 (by omega) rfl⟩
  ·have h2 := of_decide_eq_false h2
   refine br.of (fun h3 => ?_) (fun h3 => ?_) <;> (conv => whnf)
   ·refine br.of (fun h4 => ?_) (fun h4 => ?_) <;> (conv => whnf)
    ·have h4 := of_decide_eq_true h4
     refine ⟨by decide, ?_⟩
     (conv => whnf)
     refine ⟨by decide, ?_⟩
     (conv => whnf)
     refine ⟨by decide, .inl ?_⟩
     intro g H2 hle hrd
     (conv => whnf)
     refine ⟨_, rfl, hrd, ones_u8 [_, _, _], ?_⟩
     (conv => whnf)
     refine ⟨by show _ * 2 ≤ _; omega, ?_⟩
     (conv => whnf)
     exact ⟨rfl, go3 (by omega) rfl⟩
    ·have h4 := of_decide_eq_false h4
     refine br.of (fun h5 => ?_) (fun h5 => ?_) <;> (conv => whnf)
     ·refine br.of (fun h6 => ?_) (fun h6 => ?_) <;> (conv => whnf)
      ·refine ⟨by decide, ?_⟩
       (conv => whnf)
       refine ⟨by decide, ?_⟩
       (conv => whnf)
       refine ⟨by decide, ?_⟩
       (conv => whnf)
       refine ⟨by decide, .inl ?_⟩
       intro g H2 hle hrd
       (conv => whnf)
       refine ⟨_, rfl, hrd, ones_u8 [_, _, _, _], ?_⟩
       (conv => whnf)
       refine ⟨by show _ * 2 ≤ _; omega, ?_⟩
       (conv => whnf)
       refine ⟨rfl, ?_⟩
       have e : runeB x = [by1 (or8 240 (sh32 x 18)), by1 (or8 128 (IntKind.u8.wrap (and8 (sh32 x 12) 63))), by1 (or8 128 (IntKind.u8.wrap (and8 (sh32 x 6) 63))), by1 (or8 128 (IntKind.u8.wrap (and8 (IntKind.u8.wrap x) 63)))] := by unfold runeB; rw [if_neg (by omega), if_neg h1, if_neg h4]
       rw [e]
       exact congrArg (fun b => [SB.dead, b]) (row_eq (cells4 bs _ _ _ _) (by simp))
      ·have h6 := of_decide_eq_false h6
       omega
     ·have h5 := of_decide_eq_false h5
      omega
   ·have h3 := of_decide_eq_false h3
    omega
theorem appendRune (x : Int) (h0 : 0 ≤ x) (hr : x < 1114112) (hsur : x < 55296 ∨ 57344 ≤ x) (bs : List UInt8) (hn : bs.length ≤ 1000000) (H : Hp) : CallO Tryz.prog 397 [.si (.ce (.self 0)), pv (.int .i32 x)] H [.row 5 1 bs.length (bCells bs)] fun e _ G' =>
  e = .ret (.si (.ce (.self 1))) ∧ G' = [.dead, .row 5 1 (bs ++ runeB x).length (bCells (bs ++ runeB x))] := by
 refine CallO.of_body tab Tryz.func397 rfl (nt := Tryz.f397.ntmps) rfl (by kernel_rfl) ?_
 (conv => whnf)
 rw [wrapU32 (by omega) (by omega)]
 refine br.of (fun h1 => ?_) (fun h1 => ?_) <;> (conv => whnf)
 ·have h1 := of_decide_eq_true h1
  refine ⟨by decide, .inl ?_⟩
  intro g H2 hle hrd
  (conv => whnf)
  refine ⟨_, rfl, hrd, ones_u8 [_], ?_⟩
  (conv => whnf)
  refine ⟨by show _ * 2 ≤ _; omega, ?_⟩
  (conv => whnf)
  refine ⟨rfl, ?_⟩
  have e : runeB x = [by1 x] := by unfold runeB; rw [if_pos h1]
  rw [e]
  exact congrArg (fun b => [SB.dead, b]) (row_eq (bCells_snoc bs _ (by1_eq _)) (by simp))
 ·have h1 := of_decide_eq_false h1
  refine ⟨⟨_, Tryz.func401, rfl, by kernel_rfl⟩, CallS.use (nonAscii x (by omega) hr hsur bs hn H) [0] rfl rfl ⟨rfl, trivial⟩ ?_⟩
  rintro e H' G' hle ⟨rfl, rfl⟩
  (conv => whnf)
  exact ⟨rfl, rfl⟩
end Go.Kx.Js
namespace Go.Kx
open Go.RowKit Go.Lib
theorem St.lend {w0 : World} {M : Nat → Prop} (hgd : Gd w0 M) {H0 : Hp} {ρ : List Value} {H : Hp} {G : List SB} {w : World} (h : St w0 M H0 ρ H G w) {k : Nat} {t : TypeId} {sz n : Nat} {xs : List Value} (hk : G[k]? = some (.row t sz n xs)) (hz : n = 0 → xs = []) :
  ∃ x H1 M1, St w M1 H1 ρ H1 (G.set k .dead) w ∧ H.Le H1 ∧ Frozen H1 x n xs ∧ ρ[k]? = some x ∧ Gd w M1 ∧
   ∀ ρ' H' G' w1, St w M1 H1 ρ' H' G' w1 → St w0 M H0 (ρ' ++ [x]) H (G' ++ [.row t sz n xs]) w1 := by
 obtain ⟨x, H1, a1, a2, a3, a4⟩ := h.frz hk hz
 have a5 := a1.kill k
 rw [List.set_set] at a5
 refine ⟨x, H1, fun g => ∃ j, blkAt ρ (G.set k .dead) j = some g, ⟨rfl, rfl, rfl, Nat.le_refl _, fun _ _ _ => rfl, .refl _, a5.hin, fun _ _ _ e => .inl e, a5.len, a5.ok, fun j g hg => ⟨.inr ⟨j, hg⟩, (a5.own j g hg).2⟩, a5.inj⟩, a2, a3, a4, a5.gd hgd fun b hb => hb, ?_⟩
 intro ρ' H' G' w1 h1
 have a2 := a2.trans h1.hle
 have hok : (SB.row t sz n xs).Ok ρ w x := h.ok k _ _ hk a4
 have hbk : blkAt ρ G k = (SB.row t sz n xs).blk x := blkAt_eq hk a4
 have hM : ∀ g, (∃ j, blkAt ρ (G.set k .dead) j = some g) → w0.heap.size ≤ g ∨ M g := fun g ⟨j, hj⟩ => (a5.own j g hj).1
 have hself : ∀ g, (SB.row t sz n xs).blk x = some g → g < w.heap.size ∧ ¬ ∃ j, blkAt ρ (G.set k .dead) j = some g := fun g hg =>
  ⟨hok.lt hg, fun ⟨j, hj⟩ => (blkAt_dead hj).1 (h.inj j k g (blkAt_dead hj).2 (hbk.trans hg))⟩
 have hbase : St w0 M H0 ρ' H G' w1 := by
  refine ⟨h1.os.trans h.os, h1.tape.trans h.tape, h1.output.trans h.output, Nat.le_trans h.size h1.size, fun b hb hnm => ?_, h.hle, fun b o v e => h1.hin b o v (a2 b o v e), h.hnew, h1.len, h1.ok, fun j g hg => ⟨?_, fun o => ?_⟩, h1.inj⟩
  ·have hs := h.size
   have hnM : ¬ ∃ j, blkAt ρ (G.set k .dead) j = some b := fun hm => by
    rcases hM b hm with h2 | h2
    ·omega
    ·exact hnm h2
   exact (h1.old b (by omega) hnM).trans (h.old b hb hnm)
  ·rcases (h1.own j g hg).1 with h2 | h2
   ·have hs := h.size
    exact .inl (by omega)
   ·exact hM g h2
  ·have h2 := (h1.own j g hg).2 o
   cases h3 : H g o with
   | none => rfl
   | some v => rw [a2 g o v h3] at h2; cases h2
 refine hbase.adopt (s := .row t sz n xs) (r := x) (hok.move (w' := w1) fun g hg => h1.old g (hself g hg).1 (hself g hg).2) fun g hg => ?_
 have h2 := h.own k g (hbk.trans hg)
 refine ⟨h2.1, h2.2, fun j hj => ?_⟩
 rcases (h1.own j g hj).1 with h3 | h3
 ·have := (hself g hg).1; omega
 ·exact (hself g hg).2 h3
section
variable {P : Program} {n e : Nat} {D : Pin}
def backF (x : Value) (j : Nat) (F' F2 : Fr) : Prop := ∀ p ∈ F2, p ∈ F' ∨ (p.2 = .si (.ce (.self j)) ∧ (p.1, .si (.ce (.val x))) ∈ F')
noncomputable def tailC (c : Code) (d : Nat) : Code :=
 @Code.rec (fun _ => Nat → Code) (fun _ => .skip) (fun id ops draw _ => .region id ops draw)
  (fun x y _ ihy d => @Nat.rec (fun _ => Code) (.seq x y) (fun d' _ => ihy d') d)
  (fun c x y _ _ _ => .cond c x y) (fun id c _ _ => .block id c) (fun c _ _ => .loop c) (fun f p a b _ _ _ => .rangeFunc f p a b)
  (fun id _ => .exit id) (fun c _ _ => .scope c) (fun l _ => .label l) (fun l _ => .goto l) (fun _ => .ret) (fun m _ => .refuse m) c d
def codeXS (P : Program) (T : Tab) (n e : Nat) (D : Pin) (c : Code) (d : Nat) (Q : Fr → Hp → List SB → Prop) (K : KT) (F : Fr) (H : Hp) (G : List SB) : Prop :=
 @Code.rec (fun _ => Nat → Fr → Hp → List SB → Prop) (fun _ => Q) (fun _ _ _ _ => Q)
  (fun x _ _ ihy d F H G => @Nat.rec (fun _ => Prop) (Q F H G) (fun d' _ => codeX P T n e D x (thenK (ihy d') K) F H G) d)
  (fun _ _ _ _ _ _ => Q) (fun _ _ _ _ => Q) (fun _ _ _ => Q) (fun _ _ _ _ _ _ _ => Q)
  (fun _ _ => Q) (fun _ _ _ => Q) (fun _ _ => Q) (fun _ _ => Q) (fun _ => Q) (fun _ _ => Q) c d F H G
def isSeq : Code → Bool
 | .seq _ _ => true
 | _ => false
theorem isSeq_of {c : Code} (h : isSeq c = true) : ∃ x y, c = .seq x y := by
 cases c <;> first | exact ⟨_, _, rfl⟩ | cases h
theorem tailC_no {c : Code} {d : Nat} (h : isSeq c = false) : tailC c d = c := by
 cases c <;> first | rfl | cases h
theorem codeXS_no {T : Tab} {c : Code} {d : Nat} {Q : Fr → Hp → List SB → Prop} {K : KT} {F : Fr} {H : Hp} {G : List SB} (hc : isSeq c = false) (h : codeXS P T n e D c d Q K F H G) : Q F H G := by
 cases c <;> first | exact h | cases hc
theorem W.ofL {T : Tab} (hT : TabOk P T) {K : KT} {H0 : Hp} : ∀ (d : Nat) (c : Code) {Q : Fr → Hp → List SB → Prop} {F : Fr} {H : Hp} {G : List SB}, H0.Le H → codeXS P T n e D c d Q K F H G → (∀ F' H' G', H0.Le H' → Q F' H' G' → W P n e D (tailC c d) K F' H' G') → W P n e D c K F H G := by
 intro d
 induction d with
 | zero =>
  intro c Q F H G hle h h2
  cases hc : isSeq c with
  | true => obtain ⟨x, y, rfl⟩ := isSeq_of hc; exact h2 _ _ _ hle h
  | false => have := h2 _ _ _ hle (codeXS_no hc h); rwa [tailC_no hc] at this
 | succ d ih =>
  intro c Q F H G hle h h2
  cases hc : isSeq c with
  | true =>
   obtain ⟨x, y, rfl⟩ := isSeq_of hc
   have h' : codeX P T n e D x (thenK (codeXS P T n e D y d Q K) K) F H G := h
   refine W.seq (W.mono (codeX_ok hT x h') fun xx F' H' G' hle2 he => ?_)
   cases xx with
   | normal => exact ih y (hle.trans hle2) he h2
   | _ => exact he
  | false => have := h2 _ _ _ hle (codeXS_no hc h); rwa [tailC_no hc] at this
theorem codeL.cutTo {T : Tab} (hT : TabOk P T) (d : Nat) {c : Code} {K : KT} {F : Fr} {H : Hp} {G : List SB} (I : Fr → Hp → List SB → Prop) (h : codeXS P T n e D c d (Meets e I) K F H G)
  (h2 : ∀ F' H' G', H.Le H' → I F' H' G' → codeL P n e D (tailC c d) K F' H' G') : codeL P n e D c K F H G :=
 ⟨W.ofL (H0 := H) hT d c (.refl _) h fun F' H' G' hle he => by
  obtain ⟨F2, G2, σ, h1, h3, h4, h5⟩ := he
  exact W.sub σ (h2 F2 H' G2 hle h1).to h3 h4 h5⟩
theorem tailC_zero (c : Code) : tailC c 0 = c := by cases c <;> rfl
theorem tailC_add : ∀ (a : Nat) (c : Code) (b : Nat), tailC (tailC c a) b = tailC c (a + b) := by
 intro a
 induction a with
 | zero => intro c b; rw [tailC_zero, Nat.zero_add]
 | succ a ih =>
  intro c b
  cases hc : isSeq c with
  | true =>
   obtain ⟨x, y, rfl⟩ := isSeq_of hc
   rw [show a + 1 + b = (a + b) + 1 by omega]
   exact ih y b
  | false => rw [tailC_no hc, tailC_no hc, tailC_no hc]
theorem codeL.cutMore {T : Tab} (hT : TabOk P T) (a d g : Nat) (hg : a + d = g) {c : Code} {K : KT} {F : Fr} {H : Hp} {G : List SB} (I : Fr → Hp → List SB → Prop) (h : codeXS P T n e D (tailC c a) d (Meets e I) K F H G)
  (h2 : ∀ F' H' G', H.Le H' → I F' H' G' → codeL P n e D (tailC c g) K F' H' G') : codeL P n e D (tailC c a) K F H G :=
 codeL.cutTo hT d I h fun F' H' G' hle hI => by rw [tailC_add, hg]; exact h2 F' H' G' hle hI
theorem codeL.lend {T : Tab} (hT : TabOk P T) (d : Nat) {c : Code} {K : KT} {F : Fr} {H : Hp} {G : List SB} (k : Nat) {t : TypeId} {sz m : Nat} {xs : List Value} (hk : G[k]? = some (.row t sz m xs)) (hz : m = 0 → xs = [])
  (h : ∀ x0 H1, H.Le H1 → Frozen H1 x0 m xs → codeXS P T n e D c d (fun F' _ G' => ∃ F2, backF x0 G'.length F' F2 ∧ codeL P n e D (tailC c d) K F2 H (G' ++ [.row t sz m xs])) (fun _ _ _ _ => False) (frameAt k x0 F) H1 ((G.set k .dead).map (SB.at k x0))) :
  codeL P n e D c K F H G := by
 refine ⟨fun w0 M hgd H0 ρ a w hs hf hd hn => ?_⟩
 obtain ⟨x0, H1, M1, b1, b2, b3, b4, b5, b6⟩ := hs.lend hgd hk hz
 have hf' : FOk ρ (frameAt k x0 F) a.tmps := by
  intro i sv hi
  obtain ⟨⟨j, s⟩, hm, he⟩ := List.mem_map.1 hi
  injection he with e1 e2; subst e1 e2
  obtain ⟨v, h1, h2⟩ := hf j s hm
  exact ⟨v, h1, h2.at b4⟩
 have fin : ∀ (z : Code) (ρ' : List Value) (F' : Fr) (H' : Hp) (G' : List SB) (a : Act) (w1 : World), PreE e ρ ρ' → St w M1 H1 ρ' H' G' w1 → FOk ρ' F' a.tmps → D.On a → a.tmps.size = n →
   (∃ F2, backF x0 G'.length F' F2 ∧ codeL P n e D z K F2 H (G' ++ [.row t sz m xs])) → z.wp P (PostX n e D w0 M H0 ρ H K) a w1 := by
  rintro z ρ' F' H' G' a w1 hp hs2 hf2 hd2 hn2 ⟨F2, c6, c7⟩
  refine wp_mono (c7.to w0 M hgd H0 (ρ' ++ [x0]) a w1 (b6 ρ' H' G' w1 hs2) ?_ hd2 hn2) (PostX.le (hp.trans (Pre.append _ _).toE) (.refl _))
  rintro i sv hi
  rcases c6 _ hi with hi | ⟨hsv, hi⟩
  ·exact (hf2.mono (Pre.append _ _)) i sv hi
  ·obtain ⟨v, d1, d2⟩ := hf2 i _ hi
   obtain rfl : v = x0 := d2
   obtain rfl : sv = _ := hsv
   refine ⟨v, d1, ?_⟩
   show (ρ' ++ [v])[G'.length]? = some v
   rw [← hs2.len]; simp
 have go : ∀ (d : Nat) (c : Code) (ρ' : List Value) (F' : Fr) (H' : Hp) (G' : List SB) (a : Act) (w1 : World), PreE e ρ ρ' → St w M1 H1 ρ' H' G' w1 → FOk ρ' F' a.tmps → D.On a → a.tmps.size = n →
   codeXS P T n e D c d (fun F' _ G' => ∃ F2, backF x0 G'.length F' F2 ∧ codeL P n e D (tailC c d) K F2 H (G' ++ [.row t sz m xs])) (fun _ _ _ _ => False) F' H' G' → c.wp P (PostX n e D w0 M H0 ρ H K) a w1 := by
  intro d
  induction d with
  | zero =>
   intro c ρ' F' H' G' a w1 hp hs2 hf2 hd2 hn2 hw
   cases hc : isSeq c with
   | true => obtain ⟨x, y, rfl⟩ := isSeq_of hc; exact fin _ ρ' F' H' G' a w1 hp hs2 hf2 hd2 hn2 hw
   | false => have h2 := codeXS_no hc hw; rw [tailC_no hc] at h2; exact fin c ρ' F' H' G' a w1 hp hs2 hf2 hd2 hn2 h2
  | succ d ih =>
   intro c ρ' F' H' G' a w1 hp hs2 hf2 hd2 hn2 hw
   cases hc : isSeq c with
   | true =>
    obtain ⟨x, y, rfl⟩ := isSeq_of hc
    have hw' : codeX P T n e D x (thenK (codeXS P T n e D y d (fun F' _ G' => ∃ F2, backF x0 G'.length F' F2 ∧ codeL P n e D (tailC y d) K F2 H (G' ++ [.row t sz m xs])) (fun _ _ _ _ => False)) (fun _ _ _ _ => False)) F' H' G' := hw
    refine wp_seq (wp_mono (codeX_ok hT x hw' w M1 b5 H1 ρ' a w1 hs2 hf2 hd2 hn2) fun xx a1 w1 he => ?_)
    cases xx with
    | normal =>
     obtain ⟨h1, h0, F3, ρ3, H3, G3, h2, hq, h3, h4, h5⟩ := he
     exact ih y ρ3 F3 H3 G3 a1 w1 (hp.trans hq) h2 h3 h1 h0 h5
    | outgrown => exact he.elim
    | panic ch => obtain ⟨_, _, _, _, _, _, _, h7⟩ := he; exact h7.elim
    | _ => obtain ⟨_, _, _, _, _, _, _, _, _, _, h7⟩ := he; exact h7.elim
   | false => have h2 := codeXS_no hc hw; rw [tailC_no hc] at h2; exact fin c ρ' F' H' G' a w1 hp hs2 hf2 hd2 hn2 h2
 exact go d c ρ (frameAt k x0 F) H1 _ a w (.refl _ _) (b1.atAll b4) hf' hd hn (h x0 H1 b2 b3)
theorem codeL.nilCell {c : Code} {K : KT} {F : Fr} {H : Hp} {G : List SB} (k i : Nat) {t : TypeId} {cs : List SC} (et sz : Nat) (hk : G[k]? = some (.box t cs)) (hi : cs[i]? = some (.val (.slice none 0 0)))
  (h : codeL P n e D c K F H (G.set k (.box t (cs.set i (.self G.length))) ++ [.row et sz 0 []])) : codeL P n e D c K F H G :=
 ⟨fun w0 M hgd H0 _ a w hs hf hd hn => wp_mono (h.to w0 M hgd H0 _ a w (hs.nilCell et sz hk hi) (hf.mono (Pre.append _ _)) hd hn) (PostX.le (Pre.append _ _).toE (.refl _))⟩
theorem codeL.seqBlock {id : Nat} {c y : Code} {K : KT} {F : Fr} {H : Hp} {G : List SB} (h : codeL P n e D c (blockK id (thenK (codeL P n e D y K) K)) F H G) : codeL P n e D (.seq (.block id c) y) K F H G :=
 ⟨W.seq (W.block (W.mono h.to fun xx F' H' G' _ he => by
  cases xx with
  | normal => exact he.to
  | exit j =>
   simp only [blockK] at he ⊢
   split
   ·rename_i hj; rw [hj] at he; exact he.to
   ·rename_i hj; rw [hj] at he; exact he
  | _ => exact he))⟩
theorem codeL.veil {c : Code} {K : KT} {F : Fr} {H : Hp} {G : List SB} (i : Nat) (x : Value) (hx : x.ownBlock = none) (hi : getX F i fun sv => sv = pv x) (h : codeL P n e D c K ((i, .si (.ce (.self G.length))) :: F) H (G ++ [.frz x])) : codeL P n e D c K F H G := by
 obtain ⟨sv, h1, h2⟩ := getX_ok hi
 subst h2
 refine ⟨fun w0 M hgd H0 ρ a w hs hf hd hn => ?_⟩
 have hs' := hs.adopt (s := .frz x) (r := x) rfl (fun g hg => by cases hg)
 obtain ⟨v, h3, h4⟩ := hf i _ h1
 have h4' : v = x := h4
 subst h4'
 refine wp_mono (h.to w0 M hgd H0 _ a w hs' ?_ hd hn) (PostX.le (Pre.append _ _).toE (.refl _))
 intro j sv hm
 rcases List.mem_cons.1 hm with hm | hm
 ·injection hm with e1 e2; subst e1 e2
  refine ⟨_, h3, ?_⟩
  show (ρ ++ [v])[G.length]? = some _
  rw [← hs.len]; simp
 ·exact (hf.mono (Pre.append _ _)) j sv hm
theorem LO.s2bByt {o : Oper} {s d t : TypeId} {x : Operand} (ho : o.op = .convert s d x) {u : TypeDesc} (hs : P.underlying s = some u) (hd : P.underlying d = some (.slice t)) (he : P.underlying t = some (.int .u8)) {F : Fr} {H : Hp} {G : List SB} {K : SV → Hp → List SB → Prop} {Kp : List PanicEntry → Hp → List SB → Prop}
  (k : Nat) {str : ByteArray} (hx : evX x F fun sv => sv = .si (.ce (.self k))) (hk : G[k]? = some (.frz (.string str))) (h : K (.si (.ce (.self G.length))) H (G ++ [.byt t str.size (byteCells str)])) : LO P o F H G K Kp := by
 intro w0 M hgd H0 ρ a w hst hf
 obtain ⟨sx, rfl, hxv⟩ := evX_ok hx
 have hv1 : ρ[k]? = some (a.eval x) := hxv ρ a hf
 have hv : a.eval x = .string str := hst.ok k _ _ hk hv1
 have hrun : (execOp a.eval o).run P w = .ok (.value (.slice (some ⟨w.heap.size, 0, none⟩) str.size (grownCap w str.size 0 t))) (bytesWorld w t str) := by
  simp [execOp, ho, hv, Go.Lib.run_convert_string_bytes w s d t str hs hd he]
 rw [hrun]
 have hgr : w.grownBy (bytesWorld w t str) none := ⟨rfl, rfl, rfl, by rw [bytesWorld_size]; omega, fun k hk _ => bytesWorld_at_old w t str k hk⟩
 have h1 := hst.grew hgr (fun g hg => by cases hg)
 have hcs : (byteCells str).length = str.size := by rw [byteCells_map, List.length_map, List.length_map, Array.length_toList]; rfl
 have hsz : str.size ≤ (bytesCells w t str).size := by simp [bytesCells]
 have htk : (bytesCells w t str).toList.take str.size = byteCells str := by
  apply List.ext_getElem?
  intro i
  rw [List.getElem?_take]
  by_cases hi : i < str.size
  ·rw [if_pos hi]
   have := bytesWorld_cell w t str i hi
   simp only [World.cell?, bytesWorld_at_new] at this
   have h3 : (bytesCells w t str)[i]? = some (.int .u8 (str.data.toList.getD i 0).toNat) := this
   rw [Array.getElem?_toList, h3, byteCells_map, List.getElem?_map, List.getElem?_map]
   have hl : i < str.data.toList.length := by rw [Array.length_toList]; exact hi
   rw [List.getElem?_eq_getElem hl, List.getD_eq_getElem?_getD, List.getElem?_eq_getElem hl]
   rfl
  ·rw [if_neg hi, List.getElem?_eq_none (by omega)]
 have h2 := h1.adopt (s := .byt t str.size (byteCells str)) (r := .slice (some ⟨w.heap.size, 0, none⟩) str.size (grownCap w str.size 0 t))
  ⟨hcs, w.heap.size, _, _, _, rfl, grownCap_ge w str.size 0 t, bytesWorld_at_new w t str, hsz, hsz, htk⟩ (fun g hg => by
   simp [SB.blk, Value.ownBlock] at hg
   subst hg
   refine ⟨.inl hst.size, fun o => ?_, fun j hj => ?_⟩
   ·cases hh : H w.heap.size o with
    | none => rfl
    | some v => have := Hp.In.lt hst.hin hh; omega
   ·have := hst.lt hj; omega)
 refine ⟨_, ρ ++ [_], H, _, h2, Pre.append _ _, ?_, .refl _, h⟩
 show (ρ ++ [_])[G.length]? = some _
 rw [← hst.len]; simp
theorem St.frzB {w0 : World} {M : Nat → Prop} {H0 : Hp} {ρ : List Value} {H : Hp} {G : List SB} {w : World} (h : St w0 M H0 ρ H G w) {k : Nat} {t : TypeId} {m : Nat} {xs : List Value} (hk : G[k]? = some (.byt t m xs)) :
  ∃ x H', St w0 M H0 ρ H' (G.set k (.frz x)) w ∧ H.Le H' ∧ Frozen H' x m xs ∧ ρ[k]? = some x := by
 obtain ⟨r, hr, hok⟩ := h.at hk
 obtain ⟨hl, g, cap, cur, fz, rfl, hnc, hg, hfz, hcs, htk⟩ := hok
 have hout : H.Out g := (h.own k g (by rw [blkAt_eq hk hr]; rfl)).2
 refine ⟨_, H.putAt g 0 xs, ?_, Hp.putAt_le hout, .inr ⟨g, 0, cap, rfl, hnc, Hp.putAt_rd⟩, hr⟩
 refine h.give hk hr (g := g) rfl (fun b i v ev => ?_) (Hp.putAt_le hout) rfl rfl
 rcases Hp.putAt_inv ev with e1 | ⟨rfl, e0, e1⟩
 ·exact .inl e1
 ·refine .inr ⟨rfl, ?_⟩
  rw [← htk, List.getElem?_take] at e1
  split at e1
  ·simp only [World.cell?, hg]
   simpa using e1
  ·cases e1
theorem codeL.frzB {c : Code} {K : KT} {F : Fr} {H : Hp} {G : List SB} (k : Nat) {t : TypeId} {m : Nat} {xs : List Value} (hk : G[k]? = some (.byt t m xs))
  (h : ∀ x H2, H.Le H2 → Frozen H2 x m xs → codeL P n e D c K (frameAt k x F) H2 ((G.set k .dead).map (SB.at k x))) : codeL P n e D c K F H G := by
 refine ⟨fun w0 M hgd H0 ρ a w hs hf hd hn => ?_⟩
 obtain ⟨x, H2, a1, a2, a3, a4⟩ := hs.frzB hk
 have a5 := a1.kill k
 rw [List.set_set] at a5
 have hf' : FOk ρ (frameAt k x F) a.tmps := by
  intro i sv hi
  obtain ⟨⟨j, s⟩, hm, he⟩ := List.mem_map.1 hi
  injection he with e1 e2; subst e1 e2
  obtain ⟨v, h1, h2⟩ := hf j s hm
  exact ⟨v, h1, h2.at a4⟩
 exact wp_mono ((h x H2 a2 a3).to w0 M hgd H0 ρ a w (a5.atAll a4) hf' hd hn) (PostX.le (.refl _ _) a2)
theorem QO.min3 {o : Oper} {x y z : Operand} {ts : Array TypeId} (ho : o.op = .call ⟨.builtin .min, #[x, y, z], ts⟩) {F : Fr} {H : Hp} {G : List SB} {K : SV → Prop} (k : IntKind) (a b c : Int)
  (hx : evX x F fun sv => sv = pv (.int k a)) (hy : evX y F fun sv => sv = pv (.int k b)) (hz : evX z F fun sv => sv = pv (.int k c)) (h : K (pv (.int k (minB (minB a b) c)))) : QO P o F H G K := by
 obtain ⟨sx, rfl, hx⟩ := evX_ok hx
 obtain ⟨sy, rfl, hy⟩ := evX_ok hy
 obtain ⟨sz, rfl, hz⟩ := evX_ok hz
 refine ⟨_, h, fun ρ act wc hf hw => ⟨_, rfl, fun w hw' => ?_⟩⟩
 have e1 : act.eval x = .int k a := hx ρ act hf
 have e2 : act.eval y = .int k b := hy ρ act hf
 have e3 : act.eval z = .int k c := hz ρ act hf
 simp [execOp, ho, resolve, invoke, builtin, Builtin.min_, Builtin.min2, minB, e1, e2, e3]
 congr
end
end Go.Kx
namespace Go.Kx.Js
open Go.Proofs Go.Kx Go.RowKit
set_option maxRecDepth 20000
set_option linter.unusedSimpArgs false
theorem hasPrefixL (s p : ByteArray) (hp : p.size ≤ 100) (H : Hp) : CallO Tryz.prog 290 [pv (.string s), pv (.string p)] H [] fun e H' G' => H' = H ∧ e = .ret (pv (.bool (decide ((p.size : Int) ≤ (s.size : Int)) && strEq (s.extract 0 p.size) p))) ∧ G' = [] := by
 refine CallO.of_body tab Tryz.func290 rfl (nt := Tryz.f290.ntmps) rfl (by kernel_rfl) ?_
 (conv => whnf)
 refine br.of (fun h1 => ?_) (fun h1 => ?_) <;> (conv => whnf)
 ·have h2 := of_decide_eq_true h1
  refine ⟨⟨by decide, by omega, by omega⟩, ?_⟩
  (conv => whnf)
  rw [show decide ((p.size : Int) ≤ (s.size : Int)) = true from h1, Bool.true_and]
  exact ⟨rfl, rfl, rfl⟩
 ·rw [show decide ((p.size : Int) ≤ (s.size : Int)) = false from h1]
  exact ⟨rfl, rfl, rfl⟩
theorem digitsP_sfx {l r : List UInt8} {x : Unit} (h : digitsP l = .ok x r) : Sfx r l := by
 unfold digitsP at h
 split at h
 ·injection h with _ h; subst h; exact digsP_sfx l
 ·cases h
theorem bind_ok {α β : Type} {a : Res α} {f : α → List UInt8 → Res β} {y : β} {r : List UInt8} (h : a.bind f = .ok y r) : ∃ x r1, a = .ok x r1 ∧ f x r1 = .ok y r := by
 cases a with
 | ok x r1 => exact ⟨x, r1, rfl, h⟩
 | no e r1 => cases h
theorem optP_s (c : UInt8) (l : List UInt8) : Sfx (optP c l) l := optP_sfx (.refl l)
theorem num1_sfx {l r : List UInt8} {x : Unit} (h : num1 l = .ok x r) : Sfx r l := by
 unfold num1 at h
 split at h
 ·injection h with _ h; subst h; exact optP_s _ _
 ·exact (digitsP_sfx h).trans (optP_s _ _)
theorem num2_sfx {l r : List UInt8} {x : Unit} (h : num2 l = .ok x r) : Sfx r l := by
 unfold num2 at h
 split at h
 ·exact (digitsP_sfx h).trans (optP_s _ _)
 ·injection h with _ h; subst h; exact optP_s _ _
theorem num4_sfx {l r : List UInt8} {x : Unit} (h : num4 l = .ok x r) : Sfx r l := by
 unfold num4 at h
 split at h
 ·exact (digitsP_sfx h).trans (optP_s _ _)
 ·exact (digitsP_sfx h).trans ((optP_s _ _).trans (optP_s _ _))
theorem num3_sfx {l r : List UInt8} {x : Unit} (h : num3 l = .ok x r) : Sfx r l := by
 unfold num3 at h
 split at h
 ·exact (num4_sfx h).trans (optP_s _ _)
 ·split at h
  ·exact (num4_sfx h).trans ((optP_s _ _).trans (optP_s _ _))
  ·injection h with _ h; subst h; exact (optP_s _ _).trans (optP_s _ _)
theorem numberP_sfx {l r : List UInt8} {t : ByteArray} (h : numberP l = .ok t r) : Sfx r l := by
 unfold numberP at h
 obtain ⟨_, r1, h1, h⟩ := bind_ok h
 obtain ⟨_, r2, h2, h⟩ := bind_ok h
 obtain ⟨_, r3, h3, h⟩ := bind_ok h
 injection h with _ h
 subst h
 exact (num3_sfx h3).trans ((num2_sfx h2).trans ((num1_sfx h1).trans (optP_s _ _)))
theorem cut_eq {s : ByteArray} {r l : List UInt8} (hl : Sfx l (tL s)) (h : Sfx r l) : s.extract (((pos s l : Nat) : Int)).toNat (((pos s r : Nat) : Int)).toNat = ⟨(l.take (l.length - r.length)).toArray⟩ := by
 have h1 := h.le
 have h2 := hl.le
 have hd := hl.drop
 apply ByteArray.ext
 apply Array.ext'
 rw [ByteArray.data_extract, Array.toList_extract, List.extract_eq_take_drop]
 show List.take _ (List.drop _ (tL s)) = l.take (l.length - r.length)
 rw [Int.toNat_natCast, Int.toNat_natCast]
 unfold pos
 rw [hd]
 congr 1
 omega
theorem pos_ord {s : ByteArray} {r l : List UInt8} (h : Sfx r l) (_ : Sfx r (tL s)) : 0 ≤ ((pos s l : Nat) : Int) ∧ ((pos s l : Nat) : Int) ≤ ((pos s r : Nat) : Int) ∧ ((pos s r : Nat) : Int) ≤ (s.size : Int) := by
 have h1 := h.le
 have h2 := pos_le s r
 have h3 : pos s l ≤ pos s r := by unfold pos; omega
 omega
def stNu (s : ByteArray) (l r : List UInt8) (d o : Int) (H : Hp) (F : Fr) (H' : Hp) (G : List SB) : Prop := H' = H ∧ Sfx r (tL s) ∧ F = [(0, me), (2, .si (.ce (.ptr 1 0))), (3, pv (.int .i64 ((pos s l : Nat) : Int)))] ∧
 G = [rdB s r d o, .box 114 [.val (.int .i64 0), .val (.bool false), .val (.string ⟨#[]⟩), .val (.slice none 0 0), .val (.slice none 0 0)]]
theorem number_ (s : ByteArray) (l : List UInt8) (hl : Sfx l (tL s)) (hs : s.size ≤ 1000000) (d o : Int) (H : Hp) : CallO Tryz.prog 296 [me] H [rdB s l d o] fun e H' G' => H' = H ∧ Out s d o (fun (_ : Hp) (t : ByteArray) (sv : SV) => sv = .si (.ag [.val (.int .i64 3), .val (.bool false), .val (.string t), .val (.slice none 0 0), .val (.slice none 0 0)])) (numberP l) e H' G' := by
 refine CallO.of_bodyW tab Tryz.func296 rfl (nt := Tryz.f296.ntmps) rfl (by kernel_rfl) ?_
 refine (codeL.cutTo tab 4 (fun F H' G => ∃ r, num1 (optP 45 l) = .ok () r ∧ stNu s l r d o H F H' G) ?_ ?_).to
 ·(conv => whnf)
  refine ⟨⟨_, Tryz.func342, rfl, by kernel_rfl⟩, CallS.use (nextB 45 (by decide) s l hl hs d o _) [0] rfl rfl ⟨rfl, trivial⟩ ?_⟩
  rintro e H' G' hle ⟨rfl, rfl, rfl⟩
  have hm := optP_sfx (c := 45) hl
  (conv => whnf)
  refine ⟨⟨_, Tryz.func342, rfl, by kernel_rfl⟩, CallS.use (nextB 48 (by decide) s (optP 45 l) hm hs d o _) [0] rfl rfl ⟨rfl, trivial⟩ ?_⟩
  rintro e H' G' hle ⟨rfl, rfl, rfl⟩
  have hz := optP_sfx (c := 48) hm
  (conv => whnf)
  cases z : tkB 48 (optP 45 l) <;> (conv => whnf)
  ·refine ⟨⟨_, Tryz.func343, rfl, by kernel_rfl⟩, CallS.use (digits_ s (optP 48 (optP 45 l)) hz hs d o _) [0] rfl rfl ⟨rfl, trivial⟩ ?_⟩
   rintro e H' G' hle ⟨rfl, hout⟩
   have hn : num1 (optP 45 l) = digitsP (optP 48 (optP 45 l)) := by unfold num1; rw [z]; rfl
   cases w : digitsP (optP 48 (optP 45 l)) with
   | no er r =>
    rw [w] at hout
    obtain ⟨rfl, l2, o2, rfl⟩ := hout
    (conv => whnf)
    refine ⟨rfl, ?_⟩
    rw [show numberP l = .no er r by unfold numberP; rw [hn, w]; rfl]
    exact ⟨rfl, l2, o2, rfl⟩
   | ok x rw =>
    rw [w] at hout
    obtain ⟨hrw, ⟨sv, rfl, rfl⟩, rfl⟩ := hout
    (conv => whnf)
    exact ⟨_, _, [0, 1], ⟨rw, by rw [hn, w], rfl, hrw, rfl, rfl⟩, rfl, ⟨rfl, rfl, trivial⟩, rfl, rfl, rfl, trivial⟩
  ·exact ⟨_, _, [0, 1], ⟨_, by unfold num1; rw [if_pos z], rfl, hz, rfl, rfl⟩, rfl, ⟨rfl, rfl, trivial⟩, rfl, rfl, rfl, trivial⟩
 rintro F H' G _ ⟨r1, h1, rfl, hr1, rfl, rfl⟩
 refine codeL.cutTo tab 1 (fun F H2 G => ∃ r, num2 r1 = .ok () r ∧ stNu s l r d o H' F H2 G) ?_ ?_
 ·(conv => whnf)
  refine ⟨⟨_, Tryz.func342, rfl, by kernel_rfl⟩, CallS.use (nextB 46 (by decide) s r1 hr1 hs d o _) [0] rfl rfl ⟨rfl, trivial⟩ ?_⟩
  rintro e H' G' hle ⟨rfl, rfl, rfl⟩
  have hm := optP_sfx (c := 46) hr1
  (conv => whnf)
  cases z : tkB 46 r1 <;> (conv => whnf)
  ·exact ⟨_, _, [0, 1], ⟨_, by unfold num2; rw [z]; rfl, rfl, hm, rfl, rfl⟩, rfl, ⟨rfl, rfl, trivial⟩, rfl, rfl, rfl, trivial⟩
  ·refine ⟨⟨_, Tryz.func343, rfl, by kernel_rfl⟩, CallS.use (digits_ s (optP 46 r1) hm hs d o _) [0] rfl rfl ⟨rfl, trivial⟩ ?_⟩
   rintro e H' G' hle ⟨rfl, hout⟩
   have hn : num2 r1 = digitsP (optP 46 r1) := if_pos z
   cases w : digitsP (optP 46 r1) with
   | no er r =>
    rw [w] at hout
    obtain ⟨rfl, l2, o2, rfl⟩ := hout
    (conv => whnf)
    refine ⟨rfl, ?_⟩
    rw [show numberP l = .no er r by unfold numberP; rw [h1]; simp only [Res.bind]; rw [hn, w]]
    exact ⟨rfl, l2, o2, rfl⟩
   | ok x rw =>
    rw [w] at hout
    obtain ⟨hrw, ⟨sv, rfl, rfl⟩, rfl⟩ := hout
    (conv => whnf)
    exact ⟨_, _, [0, 1], ⟨rw, by rw [hn, w], rfl, hrw, rfl, rfl⟩, rfl, ⟨rfl, rfl, trivial⟩, rfl, rfl, rfl, trivial⟩
 rintro F H2 G _ ⟨r2, h2, rfl, hr2, rfl, rfl⟩
 refine codeL.cutTo tab 1 (fun F H3 G => ∃ r, num3 r2 = .ok () r ∧ stNu s l r d o H2 F H3 G) ?_ ?_
 ·(conv => whnf)
  refine ⟨⟨_, Tryz.func342, rfl, by kernel_rfl⟩, CallS.use (nextB 101 (by decide) s r2 hr2 hs d o _) [0] rfl rfl ⟨rfl, trivial⟩ ?_⟩
  rintro e H' G' hle ⟨rfl, rfl, rfl⟩
  have hm := optP_sfx (c := 101) hr2
  (conv => whnf)
  cases z : tkB 101 r2 <;> (conv => whnf)
  ·refine ⟨⟨_, Tryz.func342, rfl, by kernel_rfl⟩, CallS.use (nextB 69 (by decide) s (optP 101 r2) hm hs d o _) [0] rfl rfl ⟨rfl, trivial⟩ ?_⟩
   rintro e H' G' hle ⟨rfl, rfl, rfl⟩
   have hm2 := optP_sfx (c := 69) hm
   (conv => whnf)
   cases z2 : tkB 69 (optP 101 r2) <;> (conv => whnf)
   ·exact ⟨_, _, [0, 1], ⟨_, by simp only [num3, z, z2, if_false, Bool.false_eq_true], rfl, hm2, rfl, rfl⟩, rfl, ⟨rfl, rfl, trivial⟩, rfl, rfl, rfl, trivial⟩
   ·refine ⟨⟨_, Tryz.func342, rfl, by kernel_rfl⟩, CallS.use (nextB 43 (by decide) s (optP 69 (optP 101 r2)) hm2 hs d o _) [0] rfl rfl ⟨rfl, trivial⟩ ?_⟩
    rintro e H' G' hle ⟨rfl, rfl, rfl⟩
    have hp := optP_sfx (c := 43) hm2
    (conv => whnf)
    cases p : tkB 43 (optP 69 (optP 101 r2)) <;> (conv => whnf)
    ·refine ⟨⟨_, Tryz.func342, rfl, by kernel_rfl⟩, CallS.use (nextB 45 (by decide) s (optP 43 (optP 69 (optP 101 r2))) hp hs d o _) [0] rfl rfl ⟨rfl, trivial⟩ ?_⟩
     rintro e H' G' hle ⟨rfl, rfl, rfl⟩
     have hq := optP_sfx (c := 45) hp
     (conv => whnf)
     refine ⟨⟨_, Tryz.func343, rfl, by kernel_rfl⟩, CallS.use (digits_ s (optP 45 (optP 43 (optP 69 (optP 101 r2)))) hq hs d o _) [0] rfl rfl ⟨rfl, trivial⟩ ?_⟩
     rintro e H' G' hle ⟨rfl, hout⟩
     have hn : num3 r2 = digitsP (optP 45 (optP 43 (optP 69 (optP 101 r2)))) := by simp only [num3, num4, z, z2, p, if_true, if_false, Bool.false_eq_true]
     cases w : digitsP (optP 45 (optP 43 (optP 69 (optP 101 r2)))) with
     | no er r =>
      rw [w] at hout
      obtain ⟨rfl, l2, o2, rfl⟩ := hout
      (conv => whnf)
      refine ⟨rfl, ?_⟩
      rw [show numberP l = .no er r by unfold numberP; rw [h1]; simp only [Res.bind]; rw [h2]; simp only []; rw [hn, w]]
      exact ⟨rfl, l2, o2, rfl⟩
     | ok x rw =>
      rw [w] at hout
      obtain ⟨hrw, ⟨sv, rfl, rfl⟩, rfl⟩ := hout
      (conv => whnf)
      exact ⟨_, _, [0, 1], ⟨rw, by rw [hn, w], rfl, hrw, rfl, rfl⟩, rfl, ⟨rfl, rfl, trivial⟩, rfl, rfl, rfl, trivial⟩
    ·refine ⟨⟨_, Tryz.func343, rfl, by kernel_rfl⟩, CallS.use (digits_ s (optP 43 (optP 69 (optP 101 r2))) hp hs d o _) [0] rfl rfl ⟨rfl, trivial⟩ ?_⟩
     rintro e H' G' hle ⟨rfl, hout⟩
     have hn : num3 r2 = digitsP (optP 43 (optP 69 (optP 101 r2))) := by simp only [num3, num4, z, z2, p, if_true, if_false, Bool.false_eq_true]
     cases w : digitsP (optP 43 (optP 69 (optP 101 r2))) with
     | no er r =>
      rw [w] at hout
      obtain ⟨rfl, l2, o2, rfl⟩ := hout
      (conv => whnf)
      refine ⟨rfl, ?_⟩
      rw [show numberP l = .no er r by unfold numberP; rw [h1]; simp only [Res.bind]; rw [h2]; simp only []; rw [hn, w]]
      exact ⟨rfl, l2, o2, rfl⟩
     | ok x rw =>
      rw [w] at hout
      obtain ⟨hrw, ⟨sv, rfl, rfl⟩, rfl⟩ := hout
      (conv => whnf)
      exact ⟨_, _, [0, 1], ⟨rw, by rw [hn, w], rfl, hrw, rfl, rfl⟩, rfl, ⟨rfl, rfl, trivial⟩, rfl, rfl, rfl, trivial⟩
  ·refine ⟨⟨_, Tryz.func342, rfl, by kernel_rfl⟩, CallS.use (nextB 43 (by decide) s (optP 101 r2) hm hs d o _) [0] rfl rfl ⟨rfl, trivial⟩ ?_⟩
   rintro e H' G' hle ⟨rfl, rfl, rfl⟩
   have hp := optP_sfx (c := 43) hm
   (conv => whnf)
   cases p : tkB 43 (optP 101 r2) <;> (conv => whnf)
   ·refine ⟨⟨_, Tryz.func342, rfl, by kernel_rfl⟩, CallS.use (nextB 45 (by decide) s (optP 43 (optP 101 r2)) hp hs d o _) [0] rfl rfl ⟨rfl, trivial⟩ ?_⟩
    rintro e H' G' hle ⟨rfl, rfl, rfl⟩
    have hq := optP_sfx (c := 45) hp
    (conv => whnf)
    refine ⟨⟨_, Tryz.func343, rfl, by kernel_rfl⟩, CallS.use (digits_ s (optP 45 (optP 43 (optP 101 r2))) hq hs d o _) [0] rfl rfl ⟨rfl, trivial⟩ ?_⟩
    rintro e H' G' hle ⟨rfl, hout⟩
    have hn : num3 r2 = digitsP (optP 45 (optP 43 (optP 101 r2))) := by simp only [num3, num4, z, p, if_true, if_false, Bool.false_eq_true]
    cases w : digitsP (optP 45 (optP 43 (optP 101 r2))) with
    | no er r =>
     rw [w] at hout
     obtain ⟨rfl, l2, o2, rfl⟩ := hout
     (conv => whnf)
     refine ⟨rfl, ?_⟩
     rw [show numberP l = .no er r by unfold numberP; rw [h1]; simp only [Res.bind]; rw [h2]; simp only []; rw [hn, w]]
     exact ⟨rfl, l2, o2, rfl⟩
    | ok x rw =>
     rw [w] at hout
     obtain ⟨hrw, ⟨sv, rfl, rfl⟩, rfl⟩ := hout
     (conv => whnf)
     exact ⟨_, _, [0, 1], ⟨rw, by rw [hn, w], rfl, hrw, rfl, rfl⟩, rfl, ⟨rfl, rfl, trivial⟩, rfl, rfl, rfl, trivial⟩
   ·refine ⟨⟨_, Tryz.func343, rfl, by kernel_rfl⟩, CallS.use (digits_ s (optP 43 (optP 101 r2)) hp hs d o _) [0] rfl rfl ⟨rfl, trivial⟩ ?_⟩
    rintro e H' G' hle ⟨rfl, hout⟩
    have hn : num3 r2 = digitsP (optP 43 (optP 101 r2)) := by simp only [num3, num4, z, p, if_true, if_false, Bool.false_eq_true]
    cases w : digitsP (optP 43 (optP 101 r2)) with
    | no er r =>
     rw [w] at hout
     obtain ⟨rfl, l2, o2, rfl⟩ := hout
     (conv => whnf)
     refine ⟨rfl, ?_⟩
     rw [show numberP l = .no er r by unfold numberP; rw [h1]; simp only [Res.bind]; rw [h2]; simp only []; rw [hn, w]]
     exact ⟨rfl, l2, o2, rfl⟩
    | ok x rw =>
     rw [w] at hout
     obtain ⟨hrw, ⟨sv, rfl, rfl⟩, rfl⟩ := hout
     (conv => whnf)
     exact ⟨_, _, [0, 1], ⟨rw, by rw [hn, w], rfl, hrw, rfl, rfl⟩, rfl, ⟨rfl, rfl, trivial⟩, rfl, rfl, rfl, trivial⟩
 rintro F H3 G _ ⟨r3, h3, rfl, hr3, rfl, rfl⟩
 have hfin : numberP l = .ok ⟨(l.take (l.length - r3.length)).toArray⟩ r3 := by
  unfold numberP
  rw [h1]; simp only [Res.bind]; rw [h2]; simp only []; rw [h3]
 have hsl : Sfx r3 l := numberP_sfx hfin
 rw [hfin]
 refine codeL.go tab ?_
 (conv => whnf)
 refine WS.draw tab mixed (.take 0 (.take 1 (.take 2 (.take 3 (.take 4 (.take 5 (.take 6 (.take 7 (.take 8 (.take 9 (.take 10 (.alt 11 .done .no)))))))))))) (by kernel_rfl) [1] ?_
 (conv => whnf)
 refine ⟨pos_ord hsl hr3, ?_⟩
 (conv => whnf)
 repeat' (first | exact trivial | exact rfl | exact ⟨rfl, hr3, ⟨_, rfl, rfl⟩, rfl⟩ | (rw [cut_eq hl hsl]; exact ⟨rfl, hr3, ⟨_, rfl, rfl⟩, rfl⟩) | (refine And.intro ?_ ?_ <;> (conv => whnf)))
end Go.Kx.Js
